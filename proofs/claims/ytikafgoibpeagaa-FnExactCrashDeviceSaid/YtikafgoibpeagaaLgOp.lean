/- Opening of arguments: what is read of the world is a row that nobody writes. -/
import Derived.Test.YtikafgoibpeagaaLgRc
import Derived.ChangeArms
import Derived.WideShapes
namespace Go.Lg
set_option linter.unusedVariables false
set_option linter.unusedSimpArgs false
set_option linter.unusedSectionVars false

theorem choose_list {α : Type} (Q : Nat → α → Prop) : ∀ (n : Nat), (∀ i, i < n → ∃ x, Q i x) → ∃ xs : List α, xs.length = n ∧ ∀ (i : Nat) x, xs[i]? = some x → Q i x
  | 0, _ => ⟨[], rfl, fun i x h => by simp at h⟩
  | n + 1, h => by
    obtain ⟨xs, h1, h2⟩ := choose_list Q n fun i hi => h i (by omega)
    obtain ⟨x, hx⟩ := h n (by omega)
    refine ⟨xs ++ [x], by simp [h1], fun i y hy => ?_⟩
    rcases Nat.lt_or_ge i n with hi | hi
    · rw [List.getElem?_append_left (by omega)] at hy; exact h2 i y hy
    · rw [List.getElem?_append_right (by omega), h1] at hy
      have : i = n := by
        have := (List.getElem?_eq_some_iff.1 hy).1
        simp at this; omega
      subst this; simp at hy; subst hy; exact hx

theorem flat_len {α : Type} [Enc α] : ∀ (xs : List α), (xs.flatMap Enc.enc).length = xs.length * Rep.sz α
  | [] => by simp
  | x :: xs => by rw [List.flatMap_cons, List.length_append, flat_len xs, List.length_cons, Nat.succ_mul, Enc.elen]; show Rep.sz α + _ = _; omega

theorem flat_at {α : Type} [Enc α] : ∀ (xs : List α) (i : Nat) (x : α), xs[i]? = some x → cellsAt (xs.flatMap Enc.enc) (Rep.sz α) i = Enc.enc x
  | [], i, x, h => by simp at h
  | y :: xs, i, x, h => by
    rw [List.flatMap_cons]
    have hl : (Enc.enc y).length = 1 * Rep.sz α := by rw [Enc.elen, Nat.one_mul]; rfl
    cases i with
    | zero =>
      simp at h; subst h
      rw [cellsAt_left hl (by omega)]
      unfold cellsAt
      rw [Nat.zero_mul, List.drop_zero, List.take_of_length_le (by rw [hl]; omega)]
    | succ i =>
      rw [cellsAt_right hl (by omega)]
      exact flat_at xs i x (by simpa using h)

/-- a row that lies in the world, told as one that nobody writes -/
theorem HRel.row {σ : LH} {π : Pl} {w : World} (h : HRel σ π w) (hro : ReadOnly σ) {cells : List Value} {r s n : Nat} (hr : r < w.heap.size) (ho : Ones cells)
    (hc : ∀ (i : Nat) v, cells[i]? = some v → ∃ v', w.cell? ⟨r, i + s, none⟩ = some v' ∧ VR π v v') :
    HRel (σ.push ⟨cells, false⟩) (upd π (.hp σ.next) (some ⟨r, s, n, false⟩)) w ∧ More π (upd π (.hp σ.next) (some ⟨r, s, n, false⟩)) := by
  have hk := h.dom σ.next (Nat.le_refl _)
  have old : ∀ k e blk, π k = some e → cm [] σ.mem k = some blk → blk.wr = false := fun k e blk hke hb => by
    cases k with
    | hp b => exact hro b blk hb
    | rg t => rw [h.rg t] at hke; cases hke
  have hmore : More π (upd π (.hp σ.next) (some ⟨r, s, n, false⟩)) := fun b e hb => by
    rw [upd_ne]; exact hb
    intro he; rw [he, hk] at hb; cases hb
  refine ⟨⟨?_, ?_, ?_, ?_⟩, hmore⟩
  · rw [cm_push]
    refine ⟨?_, ?_, ?_, ?_, ?_⟩
    · intro k e blk i v hke hb hi
      by_cases he : k = .hp σ.next
      · subst he; rw [upd_same] at hke hb; cases hke; cases hb
        obtain ⟨v', h1, h2⟩ := hc i v hi
        exact ⟨v', h1, h2.mono hmore⟩
      · rw [upd_ne _ _ he] at hke hb
        obtain ⟨v', h1, h2⟩ := h.hr.cell k e blk i v hke hb hi
        exact ⟨v', h1, h2.mono hmore⟩
    · intro k blk ⟨e, hke⟩ hb
      by_cases he : k = .hp σ.next
      · subst he; rw [upd_same] at hb; cases hb; exact ho
      · rw [upd_ne _ _ he] at hke hb; exact h.hr.ones k blk ⟨e, hke⟩ hb
    · intro k e blk hke hb hw
      by_cases he : k = .hp σ.next
      · subst he; rw [upd_same] at hb; cases hb; cases hw
      · rw [upd_ne _ _ he] at hke hb; exact h.hr.own k e blk hke hb hw
    · intro k k' e e' b1 b2 h1 h2 h3 h4 hne hrr
      by_cases he : k = .hp σ.next
      · subst he
        rw [upd_same] at h1 h3; cases h1; cases h3
        rw [upd_ne _ _ (Ne.symm hne)] at h2 h4
        exact ⟨rfl, old k' e' b2 h2 h4⟩
      · by_cases he' : k' = .hp σ.next
        · subst he'
          rw [upd_same] at h2 h4; cases h2; cases h4
          rw [upd_ne _ _ he] at h1 h3
          exact ⟨old k e b1 h1 h3, rfl⟩
        · rw [upd_ne _ _ he] at h1 h3; rw [upd_ne _ _ he'] at h2 h4
          exact h.hr.inj k k' e e' b1 b2 h1 h2 h3 h4 hne hrr
    · intro k e hke
      by_cases he : k = .hp σ.next
      · subst he; rw [upd_same] at hke; cases hke; exact hr
      · rw [upd_ne _ _ he] at hke; exact h.hr.lt k e hke
  · intro b hb
    simp only [LH.push] at hb
    rw [upd_ne _ _ (by simp; omega)]; exact h.dom b (by omega)
  · intro b hb
    simp only [LH.push] at hb ⊢
    rw [if_neg (by omega)]; exact h.mdom b (by omega)
  · intro t; rw [upd_ne _ _ (by simp)]; exact h.rg t

theorem ReadOnly.push {σ : LH} (h : ReadOnly σ) (cells : List Value) : ReadOnly (σ.push ⟨cells, false⟩) := by
  intro b blk hb
  simp only [LH.push] at hb
  split at hb
  · cases hb; rfl
  · exact h b blk hb

theorem add_add {a : Addr} (h : a.spot = none) (i k : Nat) : (a.add i).add k = ⟨a.block, a.off + i + k, none⟩ := by
  obtain ⟨b, o, s⟩ := a
  simp only at h; subst h
  rw [Addr.add_none, Addr.add_none]

/-- a slice of values that lead nowhere, as it came in -/
theorem open_flat {α : Type} [Enc α] {P : Program} {H : Type} {enc : TypeId × Value → H} {w : World} {base : Nat} {spare : Nat → Bool} {held : Bool} {fuel : Nat} {t e : TypeId} {cs : List Value} {x : DataW H × List MemPlace}
    (hel : ∀ fuel cs x, DataW.trod enc P w base spare held fuel e cs = some x → ∃ y : α, cs = Enc.enc y ∧ Enc.good y) (hconst : ∀ (y : α), ∀ c ∈ Enc.enc y, constOk c = true) (hsz : P.cellsOf e = Rep.sz α) (ht : P.underlying t = some (.slice e))
    (h : DataW.trod enc P w base spare held fuel t cs = some x) (hsp : ∀ a n c, cs = [.slice (some a) n c] → a.spot = none ∧ a.block < w.heap.size)
    {σ : LH} {π : Pl} (hr : HRel σ π w) (hro : ReadOnly σ) :
    ∃ (v' : Value) (xs : List α) (σ' : LH) (π' : Pl) (v : Value), cs = [v'] ∧ HRel σ' π' w ∧ ReadOnly σ' ∧ Ext σ σ' ∧ More π π' ∧ VR π' v v' ∧ RdS σ' v xs ∧ (xs.length : Int) ≤ 9223372036854775807 := by
  rcases DataW.trod_slice ht h with ⟨rfl, _⟩ | ⟨a, len, cap, elems, rest, n, _, rfl, _, _, hlc, hcm, helen, hget, _⟩
  · exact ⟨_, [], σ, π, .slice none 0 0, rfl, hr, hro, Mod.refl _ _, fun _ _ h => h, .slcN, .inl ⟨rfl, .inl rfl⟩, by simp⟩
  · obtain ⟨hs1, hs2⟩ := hsp a len cap rfl
    rw [hsz] at hget
    have hex : ∀ i, i < len → ∃ y : α, Enc.good y ∧ ∀ k c, (Enc.enc y)[k]? = some c → w.cell? ⟨a.block, a.off + i * Rep.sz α + k, none⟩ = some c := by
      intro i hi
      have hg := hget i hi
      rw [List.getElem?_eq_getElem (by omega)] at hg
      obtain ⟨c2, hc, ht2⟩ := Option.bind_eq_some_iff.1 hg
      obtain ⟨y, rfl, hgood⟩ := hel _ _ _ ht2
      refine ⟨y, hgood, fun k c hk => ?_⟩
      unfold World.cells? at hc
      split at hc
      · have hkl : k < Rep.sz α := by have := (List.getElem?_eq_some_iff.1 hk).1; rw [Enc.elen] at this; exact this
        have := mapM_some_get hc k k (by simp [hkl])
        rw [add_add hs1] at this
        rw [this]; exact hk
      · cases hc
    obtain ⟨xs, hx1, hx2⟩ := choose_list _ len hex
    have hcell : ∀ (i : Nat) v, (xs.flatMap Enc.enc)[i]? = some v → ∃ v', w.cell? ⟨a.block, i + a.off, none⟩ = some v' ∧ VR π v v' := by
      intro i v hv
      have hlt := (List.getElem?_eq_some_iff.1 hv).1
      rw [flat_len] at hlt
      have hz : 0 < Rep.sz α := Rep.pos
      have hq : i / Rep.sz α < xs.length := Nat.div_lt_of_lt_mul (by rw [Nat.mul_comm]; exact hlt)
      obtain ⟨y, hy⟩ : ∃ y, xs[i / Rep.sz α]? = some y := ⟨_, List.getElem?_eq_getElem hq⟩
      have h1 := flat_at xs (i / Rep.sz α) y hy
      have h2 : (cellsAt (xs.flatMap Enc.enc) (Rep.sz α) (i / Rep.sz α))[i % Rep.sz α]? = some v := by
        rw [cellsAt_get, if_pos (Nat.mod_lt _ hz), Nat.mul_comm, Nat.div_add_mod]; exact hv
      rw [h1] at h2
      have h3 := (hx2 _ y hy).2 _ v h2
      refine ⟨v, ?_, constOk_VR π (hconst y v (List.mem_of_getElem? h2))⟩
      rw [← h3]; congr 2
      have := Nat.div_add_mod i (Rep.sz α)
      rw [Nat.mul_comm] at this; omega
    have hones : Ones (xs.flatMap Enc.enc) := fun v hv => by
      obtain ⟨y, _, hy⟩ := List.mem_flatMap.1 hv
      exact Enc.eones y v hy
    obtain ⟨k1, k2⟩ := hr.row hro (s := a.off) (n := 0) hs2 hones hcell
    refine ⟨_, xs, _, _, .slice (some ⟨σ.next, 0, some (Rep.sz α)⟩) len (capE cap), rfl, k1, hro.push _, Ext.push _ _, k2, ?_, ?_, ?_⟩
    · obtain ⟨b, o, s⟩ := a
      simp only at hs1; subst hs1
      exact .slc σ.next 0 len (capE cap) (Rep.sz α) o cap ⟨b, o, 0, false⟩ (upd_same _ _ _) (fun _ => by simp) (by simp [capE]; omega) (fun _ => by simp [capE]; omega) (by simp [capE]; omega) nofun
    · refine .inr ⟨σ.next, 0, capE cap, ⟨xs.flatMap Enc.enc, false⟩, by rw [hx1], by simp [capE]; omega, by simp [LH.push], by show 0 + _ ≤ (xs.flatMap Enc.enc).length; rw [flat_len]; omega, fun i x hx => ?_⟩
      simp only [List.drop_zero]
      rw [flat_at xs i x hx]
      exact ⟨rfl, (hx2 i x hx).1⟩
    · have h1 : maxLen ≤ 9223372036854775807 := by decide
      omega
end Go.Lg
