/- Every operation: its logical run is alike to the model's. -/
import Derived.Test.YtikafgoibpeagaaLgN
namespace Go.Lg
set_option linter.unusedVariables false
set_option linter.unusedSimpArgs false

/-! ## calls -/
structure HRel (σ : LH) (π : Pl) (w : World) : Prop where
  hr : HR (cm [] σ.mem) π w
  dom : ∀ b, σ.next ≤ b → π (.hp b) = none
  mdom : ∀ b, σ.next ≤ b → σ.mem b = none
  rg : ∀ t, π (.rg t) = none

def RV (π : Pl) (rs : List Value) (v : Value) : Prop := (∃ x, rs = [x] ∧ VR π x v) ∨ (rs.length ≠ 1 ∧ ∃ arr, v = .tuple arr ∧ VRs π rs arr.toList)

abbrev Cal := Nat → List Value → LH → Option (List Value × LH)

def CallOk (P : Program) (call : Cal) : Prop := ∀ f args σ rs σ', call f args σ = some (rs, σ') →
  (∃ fn, P.funcs[f]? = some fn ∧ (fn.name == "runtime.NumGoroutine") = false ∧ fn.body.isSome = true) ∧
  ∀ π w args', HRel σ π w → VRs π args args' → Calls P f args'.toArray w fun e w' => ∃ v π', e = .returned v ∧ RV π' rs v ∧ HRel σ' π' w' ∧
    Step (cm [] σ.mem) σ.next π w (cm [] σ'.mem) σ'.next π' w' ∧ More' π π'

def hpOnly (π : Pl) : Pl := fun k => match k with | .hp b => π (.hp b) | .rg _ => none
def merge (h r : Pl) : Pl := fun k => match k with | .hp b => h (.hp b) | .rg t => r (.rg t)

theorem hpOnly_some {π : Pl} {k : Key} {e : Tgt} (h : hpOnly π k = some e) : ∃ b, k = .hp b ∧ π (.hp b) = some e := by
  cases k with
  | hp b => exact ⟨b, rfl, h⟩
  | rg t => cases h
theorem cm_hp (regs : List (Nat × List Value)) (mem : Nat → Option Blk) (b : Nat) : cm regs mem (.hp b) = mem b := rfl
theorem more_hpOnly (π : Pl) : More π (hpOnly π) := fun b e h => h
theorem more_merge (h r : Pl) : More h (merge h r) := fun b e hb => hb
theorem more_hpOnly' (π : Pl) : More (hpOnly π) π := fun b e h => h

section
variable {P : Program} {E : Env} {fr : Fr} {σ : LH} {π : Pl} {a : Act} {w : World}

theorem Rel.inner (h : Rel fr σ π a w) : HRel σ (hpOnly π) w := by
  refine ⟨⟨?_, ?_, ?_, ?_, ?_⟩, h.dom, h.mdom, fun _ => rfl⟩
  · intro k e blk i v hk hm hi
    obtain ⟨b, rfl, hb⟩ := hpOnly_some hk
    obtain ⟨v', h1, h2⟩ := h.hr.cell (.hp b) e blk i v hb hm hi
    exact ⟨v', h1, h2.mono (more_hpOnly π)⟩
  · intro k blk ⟨e, hk⟩ hm
    obtain ⟨b, rfl, hb⟩ := hpOnly_some hk
    exact h.hr.ones (.hp b) blk ⟨e, hb⟩ hm
  · intro k e blk hk hm hw
    obtain ⟨b, rfl, hb⟩ := hpOnly_some hk
    exact h.hr.own (.hp b) e blk hb hm hw
  · intro k k' e e' blk blk' hk hk' hm hm' hne hr
    obtain ⟨b, rfl, hb⟩ := hpOnly_some hk
    obtain ⟨b', rfl, hb'⟩ := hpOnly_some hk'
    exact h.hr.inj (.hp b) (.hp b') e e' blk blk' hb hb' hm hm' hne hr
  · intro k e hk
    obtain ⟨b, rfl, hb⟩ := hpOnly_some hk
    exact h.hr.lt (.hp b) e hb

theorem Rel.outer (h : Rel fr σ π a w) {σ' : LH} {π' : Pl} {w' : World} (hh : HRel σ' π' w') (s : Step (cm [] σ.mem) σ.next (hpOnly π) w (cm [] σ'.mem) σ'.next π' w') :
    Kept fr σ π a w fr.regs σ' (merge π' π) w' := by
  have hlt : ∀ b e, π (.hp b) = some e → b < σ.next := fun b e hb => by
    rcases Nat.lt_or_ge b σ.next with h' | h'
    · exact h'
    · rw [h.dom b h'] at hb; cases hb
  have hmore : More' π (merge π' π) := fun k e hk => by
    cases k with
    | hp b => show π' (.hp b) = some e; rw [s.old b (hlt b e hk)]; exact hk
    | rg t => exact hk
  have hm2 : More π' (merge π' π) := fun b e hb => hb
  -- a register's row is no block's row
  have hreg : ∀ t e cs, π (.rg t) = some e → look fr.regs t = some cs → ∀ b e1 y, π (.hp b) = some e1 → σ.mem b = some y → e1.r ≠ e.r := by
    intro t e cs ht hc b e1 y hb hy he
    have := (h.hr.inj (.hp b) (.rg t) e1 e y ⟨cs, true⟩ hb ht hy (by simp [cm, hc]) (by simp) he).2
    cases this
  have hun : ∀ t e cs, π (.rg t) = some e → look fr.regs t = some cs → Untouched (cm [] σ.mem) (hpOnly π) e.r := by
    intro t e cs ht hc k e1 y hk hy he
    obtain ⟨b, rfl, hb⟩ := hpOnly_some hk
    exact absurd he (hreg t e cs ht hc b e1 y hb hy)
  have hsame : ∀ t e cs, π (.rg t) = some e → look fr.regs t = some cs → w'.heap[e.r]? = w.heap[e.r]? := fun t e cs ht hc =>
    s.frame e.r (h.hr.lt _ _ ht) (hun t e cs ht hc)
  have hfar : ∀ t e cs, π (.rg t) = some e → look fr.regs t = some cs → ∀ b e1 y, π' (.hp b) = some e1 → σ'.mem b = some y → e1.r ≠ e.r := by
    intro t e cs ht hc b e1 y hb hy he
    rcases s.new (.hp b) e1 hb with g | g | ⟨k0, e0, b0, g1, g2, g3, g4⟩
    · have hb' : π (.hp b) = some e1 := g
      obtain ⟨y0, q1, _⟩ := s.wr b y (hlt b e1 hb') hy
      exact hreg t e cs ht hc b e1 y0 hb' q1 he
    · have := h.hr.lt _ _ ht; omega
    · obtain ⟨x, rfl, hx⟩ := hpOnly_some g1
      exact hreg t e cs ht hc x e0 b0 hx g2 (by omega)
  refine ⟨⟨fun t x ht => (h.tm t x ht).mono hmore, h.sz, h.df, ⟨?_, ?_, ?_, ?_, ?_⟩, hh.dom, hh.mdom, h.rg, h.rg'⟩, ⟨s.os, s.tape, s.output, s.size, s.nxt, s.old, ?_, s.lframe, s.wr, ?_⟩, hmore⟩
  · intro k e blk i v hk hm hi
    cases k with
    | hp b =>
      obtain ⟨v', h1, h2⟩ := hh.hr.cell (.hp b) e blk i v hk hm hi
      exact ⟨v', h1, h2.mono hm2⟩
    | rg t =>
      have hc : (look fr.regs t).map (fun cs => (⟨cs, true⟩ : Blk)) = some blk := hm
      obtain ⟨cs, hcs, rfl⟩ := Option.map_eq_some_iff.mp hc
      obtain ⟨v', h1, h2⟩ := h.hr.cell (.rg t) e ⟨cs, true⟩ i v hk hm hi
      exact ⟨v', by rw [cell_of_heap (hsame t e cs hk hcs)]; exact h1, h2.mono hmore.hp⟩
  · intro k blk ⟨e, hk⟩ hm
    cases k with
    | hp b => exact hh.hr.ones (.hp b) blk ⟨e, hk⟩ hm
    | rg t => exact h.hr.ones (.rg t) blk ⟨e, hk⟩ hm
  · intro k e blk hk hm hw
    cases k with
    | hp b => exact hh.hr.own (.hp b) e blk hk hm hw
    | rg t =>
      have hc : (look fr.regs t).map (fun cs => (⟨cs, true⟩ : Blk)) = some blk := hm
      obtain ⟨cs, hcs, rfl⟩ := Option.map_eq_some_iff.mp hc
      obtain ⟨g1, arr, g2, g3⟩ := h.hr.own (.rg t) e ⟨cs, true⟩ hk hm hw
      exact ⟨g1, arr, g2.of_heap (hsame t e cs hk hcs), g3⟩
  · intro k k' e e' blk blk' hk hk' hm hm' hne hr
    cases k with
    | hp b =>
      cases k' with
      | hp b' => exact hh.hr.inj (.hp b) (.hp b') e e' blk blk' hk hk' hm hm' hne hr
      | rg t =>
        have hc : (look fr.regs t).map (fun cs => (⟨cs, true⟩ : Blk)) = some blk' := hm'
        obtain ⟨cs, hcs, rfl⟩ := Option.map_eq_some_iff.mp hc
        exact absurd hr (hfar t e' cs hk' hcs b e blk hk hm)
    | rg t =>
      cases k' with
      | hp b' =>
        have hc : (look fr.regs t).map (fun cs => (⟨cs, true⟩ : Blk)) = some blk := hm
        obtain ⟨cs, hcs, rfl⟩ := Option.map_eq_some_iff.mp hc
        exact absurd hr.symm (hfar t e cs hk hcs b' e' blk' hk' hm')
      | rg t' => exact h.hr.inj (.rg t) (.rg t') e e' blk blk' hk hk' hm hm' hne hr
  · intro k e hk
    cases k with
    | hp b => exact hh.hr.lt (.hp b) e hk
    | rg t => exact Nat.lt_of_lt_of_le (h.hr.lt (.rg t) e hk) s.size
  · intro r hr hu
    refine s.frame r hr fun k e y hk hy he => ?_
    obtain ⟨b, rfl, hb⟩ := hpOnly_some hk
    exact hu (.hp b) e y hb hy he
  · intro k e hk
    cases k with
    | hp b =>
      rcases s.new (.hp b) e hk with g | g | ⟨k0, e0, b0, g1, g2, g3, g4⟩
      · exact .inl g
      · exact .inr (.inl g)
      · obtain ⟨x, rfl, hx⟩ := hpOnly_some g1
        exact .inr (.inr ⟨.hp x, e0, b0, hx, g2, g3, g4⟩)
    | rg t => exact .inl hk

/-! ## one operation -/
/-- what follows an operation that is carried out -/
def Goes (fr : Fr) (σ : LH) (π : Pl) (a : Act) (w : World) {α : Type} (k : Option FV → List (Nat × List Value) → LH → Option α) (res : α) (o : Oper) (next : Act → World → Prop) : Prop :=
  ∀ x regs σ' π' v w', k x regs σ' = some res → (∀ y, x = some y → FVR π' y v) → Kept fr σ π a w regs σ' π' w' → next (a.put o.dst v) w'

variable {α : Type} {k : Option FV → List (Nat × List Value) → LH → Option α} {res : α} {o : Oper} {next : Act → World → Prop} {Q : Exit → Act → World → Prop}

theorem goes_plain (hr : Rel fr σ π a w) (hn : Goes fr σ π a w k res o next) {y : FV} {v : Value} (hrun : (execOp a.eval o).run P w = .ok (.value v) w) (hy : FVR π y v) (hk : k (some y) fr.regs σ = some res) :
    o.wp P a w next Q := wp_value hrun (hn (some y) fr.regs σ π v w hk (fun z hz => by cases hz; exact hy) (Kept.refl hr))

theorem goes_value (hn : Goes fr σ π a w k res o next) {y : FV} {v : Value} {regs : List (Nat × List Value)} {σ' : LH} {π' : Pl} {w' : World}
    (hrun : (execOp a.eval o).run P w = .ok (.value v) w') (hy : FVR π' y v) (hk : k (some y) regs σ' = some res) (hs : Kept fr σ π a w regs σ' π' w') :
    o.wp P a w next Q := wp_value hrun (hn (some y) regs σ' π' v w' hk (fun z hz => by cases hz; exact hy) hs)

theorem lookv (s : Sem Value) {v : Value} {w' : World} (h : s.run P w = .ok v w') : ((do pure (.value (← s))) : Sem Next).run P w = .ok (.value v) w' := by
  simp [h]
theorem looku (s : Sem Unit) {w' : World} (h : s.run P w = .ok () w') : ((do s; pure .skip) : Sem Next).run P w = .ok .skip w' := by
  simp [h]

theorem unN1 {l : List Value} {kk : List Value → Option α} (h : unN 1 l kk = some res) : ∃ x, l = [x] ∧ kk [x] = some res := by
  obtain ⟨h1, h2⟩ := unN_some h
  match l, h1 with
  | [x], _ => exact ⟨x, rfl, h2⟩

theorem call_sound (hr : Rel fr σ π a w) {call : Cal} (hc : CallOk P call) {f : Nat} {args args' : List Value} {rs : List Value} {σ' : LH} (he : call f args σ = some (rs, σ')) (hv : VRs π args args')
    (hrun : (execOp a.eval o).run P w = .ok (.enter f args'.toArray) w)
    (hn : ∀ v π' w', RV π' rs v → Kept fr σ π a w fr.regs σ' π' w' → next (a.put o.dst v) w') : o.wp P a w next Q := by
  obtain ⟨_, hcl⟩ := hc f args σ rs σ' he
  have := hcl (hpOnly π) w args' hr.inner (hv.mono (more_hpOnly π))
  unfold Oper.wp
  rw [hrun, Oper.upon_enter]
  refine this.mono fun e w' ⟨v, π', he, hrv, hh, hs, hm⟩ => ?_
  subst he
  have hk := hr.outer hh hs
  refine hn v _ w' ?_ hk
  rcases hrv with ⟨x, h1, h2⟩ | ⟨h1, arr, h2, h3⟩
  · exact .inl ⟨x, h1, h2.mono (more_merge _ _)⟩
  · exact .inr ⟨h1, arr, h2, h3.mono (more_merge _ _)⟩
end
end Go.Lg
