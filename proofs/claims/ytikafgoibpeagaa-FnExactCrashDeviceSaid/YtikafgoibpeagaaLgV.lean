/- What an operation's logical run says, whatever follows it. -/
import Derived.Test.YtikafgoibpeagaaLgU
namespace Go.Lg
set_option linter.unusedVariables false
set_option linter.unusedSimpArgs false
set_option linter.unusedSectionVars false

section
variable {α : Type} {fr : Fr} {res : α}

theorem ev_inv {x : Operand} {k : FV → Option α} (h : fr.ev x k = some res) : ∃ y, (∀ (β : Type) (k' : FV → Option β), fr.ev x k' = k' y) ∧ k y = some res := by
  unfold Fr.ev at h
  cases x with
  | tmp t =>
    simp only at h
    split at h
    · rename_i v hv; exact ⟨v, fun β k' => by simp only [Fr.ev, hv], h⟩
    · cases h
  | const v =>
    simp only at h
    cases hc : constOk v with
    | true => rw [hc] at h; exact ⟨_, fun β k' => by simp only [Fr.ev, hc, cond_true], h⟩
    | false => rw [hc] at h; cases h
  | func f => exact ⟨_, fun β k' => rfl, h⟩
  | global g => cases h

theorem evV_inv {x : Operand} {k : Value → Option α} (h : fr.evV x k = some res) : ∃ y, (∀ (β : Type) (k' : Value → Option β), fr.evV x k' = k' y) ∧ k y = some res := by
  obtain ⟨y, h1, h2⟩ := ev_inv h
  cases y with
  | val v => exact ⟨v, fun β k' => h1 β _, h2⟩
  | reg => cases h2
  | tup => cases h2
  | und => cases h2

theorem evVs_inv : ∀ {xs : List Operand} {k : List Value → Option α}, fr.evVs xs k = some res → ∃ l, (∀ (β : Type) (k' : List Value → Option β), fr.evVs xs k' = k' l) ∧ k l = some res
  | [], k, h => ⟨[], fun β k' => rfl, h⟩
  | x :: xs, k, h => by
    obtain ⟨v, h1, h2⟩ := evV_inv h
    obtain ⟨l, h3, h4⟩ := evVs_inv h2
    exact ⟨v :: l, fun β k' => by show fr.evV x _ = _; rw [h1, h3], h4⟩

theorem evPs_inv : ∀ {xs : List (Nat × Operand)} {k : List (Nat × Value) → Option α}, fr.evPs xs k = some res → ∃ l, (∀ (β : Type) (k' : List (Nat × Value) → Option β), fr.evPs xs k' = k' l) ∧ k l = some res
  | [], k, h => ⟨[], fun β k' => rfl, h⟩
  | (i, x) :: xs, k, h => by
    obtain ⟨v, h1, h2⟩ := evV_inv h
    obtain ⟨l, h3, h4⟩ := evPs_inv h2
    exact ⟨(i, v) :: l, fun β k' => by show fr.evV x _ = _; rw [h1, h3], h4⟩

theorem evO_inv {x : Option Operand} {k : Option Value → Option α} (h : fr.evO x k = some res) : ∃ y, (∀ (β : Type) (k' : Option Value → Option β), fr.evO x k' = k' y) ∧ k y = some res := by
  cases x with
  | none => exact ⟨none, fun β k' => rfl, h⟩
  | some x =>
    obtain ⟨v, h1, h2⟩ := evV_inv h
    exact ⟨some v, fun β k' => h1 β _, h2⟩

theorem unN_inv : ∀ {n : Nat} {l : List Value} {k : List Value → Option α}, unN n l k = some res → (∀ (β : Type) (k' : List Value → Option β), unN n l k' = k' l) ∧ k l = some res
  | 0, [], k, h => ⟨fun β k' => rfl, h⟩
  | 0, _ :: _, k, h => by simp [unN] at h
  | n + 1, [], k, h => by simp [unN] at h
  | n + 1, v :: l, k, h => by
    obtain ⟨h1, h2⟩ := unN_inv (n := n) (l := l) (k := fun l => k (v :: l)) h
    exact ⟨fun β k' => h1 β fun l => k' (v :: l), h2⟩

theorem unC_inv {ag : Bool} {n : Nat} {v : Value} {k : List Value → Option α} (h : unC ag n v k = some res) : (∀ (β : Type) (k' : List Value → Option β), unC ag n v k' = k' v.cells.toList) ∧ k v.cells.toList = some res := by
  cases ag with
  | true =>
    cases v with
    | agg cs =>
      obtain ⟨h1, h2⟩ := unN_inv (show unN n cs.toList k = some res from h)
      exact ⟨h1, h2⟩
    | _ => exact absurd h (by simp [unC])
  | false =>
    obtain ⟨h1, h2⟩ := sc1_some (show sc1 v (k [v]) = some res from h)
    refine ⟨fun β k' => ?_, by rw [h1]; exact h2⟩
    rw [h1]
    cases v <;> first | rfl | cases h

theorem rdReg_inv {cs : List Value} {off size : Nat} {ag : Bool} {k : Value → Option α} (h : rdReg cs off size ag k = some res) : ∃ v, (∀ (β : Type) (k' : Value → Option β), rdReg cs off size ag k' = k' v) ∧ k v = some res := by
  cases ag with
  | true =>
    obtain ⟨h1, h2⟩ := cond_some (show (cond (Nat.ble (off + size) cs.length) _ none) = some res from h)
    exact ⟨_, fun β k' => by simp only [rdReg, cond_true, h1], h2⟩
  | false =>
    simp only [rdReg, cond_false] at h
    split at h
    · rename_i v r hd
      exact ⟨v, fun β k' => by simp only [rdReg, cond_false, hd], h⟩
    · cases h
end

/-- closed under the places -/
def Has (π : Pl) (v : Value) : Prop := ∃ v', VR π v v'

theorem Has.back {π π' : Pl} (hm : More π π') {v v' : Value} (h : VR π' v v') : Has π v → VR π v v' := by
  induction h with
  | bool b => exact fun _ => .bool b
  | int k n => exact fun _ => .int k n
  | string s => exact fun _ => .string s
  | nilFunc => exact fun _ => .nilFunc
  | nilIface => exact fun _ => .nilIface
  | ptrN => exact fun _ => .ptrN
  | ptr b o e h =>
    rintro ⟨u, hu⟩
    cases hu with
    | ptr _ _ e1 h1 =>
      have := hm _ _ h1
      rw [h] at this; cases this
      exact .ptr b o e h1
  | slcN => exact fun _ => .slcN
  | slc b o n c z o' c' e h h1 h2 h3 h4 h5 =>
    rintro ⟨u, hu⟩
    cases hu with
    | slc _ _ _ _ _ _ _ e1 g =>
      have := hm _ _ g
      rw [h] at this; cases this
      exact .slc b o n c z o' c' e g h1 h2 h3 h4 h5
  | func f a b a' b' ha hb h1 h2 i1 i2 =>
    rintro ⟨u, hu⟩
    cases hu with
    | func _ _ _ a2 b2 ha2 hb2 g1 g2 =>
      refine .func f a b a' b' ha hb (fun i v v' hv hv' => i1 i v v' hv hv' ?_) (fun i v v' hv hv' => i2 i v v' hv hv' ?_)
      · have hlt : i < a2.size := by rw [← ha2]; exact (Array.getElem?_eq_some_iff.1 hv).1
        exact ⟨_, g1 i v _ hv (Array.getElem?_eq_getElem hlt)⟩
      · have hlt : i < b2.size := by rw [← hb2]; exact (Array.getElem?_eq_some_iff.1 hv).1
        exact ⟨_, g2 i v _ hv (Array.getElem?_eq_getElem hlt)⟩
  | agg cs cs' hs ho h ih =>
    rintro ⟨u, hu⟩
    cases hu with
    | agg _ c2 hs2 ho2 g =>
      refine .agg cs cs' hs ho fun i v v' hv hv' => ih i v v' hv hv' ?_
      have hlt : i < c2.size := by rw [← hs2]; exact (Array.getElem?_eq_some_iff.1 hv).1
      exact ⟨_, g i v _ hv (Array.getElem?_eq_getElem hlt)⟩

def MkShape (g : Nat → Value) : Prop := (g = fun b => .pointer (some ⟨b, 0, none⟩)) ∨ ∃ size n c, g = fun b => .slice (some ⟨b, 0, some size⟩) n c

/-- all temporaries lead somewhere -/
def FrHas (fr : Fr) (π : Pl) : Prop := ∀ t y, look fr.tmps t = some (some y) → ∃ v, FVR π y v

/-- one operation's logical run -/
structure OpF (E : Env) (call : Cal) (f : Nat) (o : Oper) (fr : Fr) (σ : LH) (x : Option FV) (σ' : LH) (kd : Kd) : Prop where
  all : ∀ (β : Type) (k' : Option FV → List (Nat × List Value) → LH → Option β), opC E call f o fr σ k' = k' x fr.regs σ'
  plain : kd = .plain → σ' = σ ∧ ∀ (τ : LH) (β : Type) (k' : Option FV → List (Nat × List Value) → LH → Option β), opC E call f o fr τ k' = k' x fr.regs τ
  mkk : kd = .mk → ∃ blk g, MkShape g ∧ x = some (.val (g σ.next)) ∧ blk.wr = true ∧ σ' = σ.push blk ∧
    (∀ (τ : LH) (β : Type) (k' : Option FV → List (Nat × List Value) → LH → Option β), opC E call f o fr τ k' = k' (some (.val (g τ.next))) fr.regs (τ.push blk)) ∧
    (∀ π, FrHas fr π → ∀ c ∈ blk.cells, Has π c)
  ld : ∀ p size agg v, kd = .ld p size agg v → σ' = σ ∧ pLd σ size agg p = some v ∧
    ∀ (τ : LH), pLd τ size agg p = some v → ∀ (β : Type) (k' : Option FV → List (Nat × List Value) → LH → Option β), opC E call f o fr τ k' = k' x fr.regs τ

/-- what is shown of each operation -/
def Inv (E : Env) (call : Cal) (f : Nat) (o : Oper) (fr : Fr) (σ : LH) {α : Type} (k : Option FV → List (Nat × List Value) → LH → Option α) (res : α) : Prop :=
  ∃ x regs σ', k x regs σ' = some res ∧ ∀ kd, kindOf E f o fr x = some kd → regs = fr.regs ∧ OpF E call f o fr σ x σ' kd

section
variable {E : Env} {call : Cal} {f : Nat} {o : Oper} {fr : Fr} {σ : LH} {α : Type} {k : Option FV → List (Nat × List Value) → LH → Option α} {res : α}

theorem inv_plain {x : Option FV} (hk : k x fr.regs σ = some res) (h : ∀ (τ : LH) (β : Type) (k' : Option FV → List (Nat × List Value) → LH → Option β), opC E call f o fr τ k' = k' x fr.regs τ)
    (hkd : ∀ kd, kindOf E f o fr x = some kd → kd = .plain) : Inv E call f o fr σ k res :=
  ⟨x, fr.regs, σ, hk, fun kd hd => ⟨rfl, by
    have := hkd kd hd; subst this
    exact ⟨fun β k' => h σ β k', fun _ => ⟨rfl, h⟩, nofun, nofun⟩⟩⟩

theorem inv_eff {x : Option FV} {σ' : LH} (hk : k x fr.regs σ' = some res) (h : ∀ (β : Type) (k' : Option FV → List (Nat × List Value) → LH → Option β), opC E call f o fr σ k' = k' x fr.regs σ')
    (hkd : ∀ kd, kindOf E f o fr x = some kd → kd = .eff) : Inv E call f o fr σ k res :=
  ⟨x, fr.regs, σ', hk, fun kd hd => ⟨rfl, by
    have := hkd kd hd; subst this
    exact ⟨h, nofun, nofun, nofun⟩⟩⟩

theorem inv_mk {g : Nat → Value} {blk : Blk} (hg : MkShape g) (hw : blk.wr = true) (hk : k (some (.val (g σ.next))) fr.regs (σ.push blk) = some res)
    (h : ∀ (τ : LH) (β : Type) (k' : Option FV → List (Nat × List Value) → LH → Option β), opC E call f o fr τ k' = k' (some (.val (g τ.next))) fr.regs (τ.push blk))
    (hc : ∀ π, FrHas fr π → ∀ c ∈ blk.cells, Has π c)
    (hkd : ∀ x kd, kindOf E f o fr x = some kd → kd = .mk) : Inv E call f o fr σ k res :=
  ⟨_, fr.regs, _, hk, fun kd hd => ⟨rfl, by
    have := hkd _ kd hd; subst this
    exact ⟨fun β k' => h σ β k', nofun, fun _ => ⟨blk, g, hg, rfl, hw, rfl, h, hc⟩, nofun⟩⟩⟩

/-- the others: no drawn region holds them -/
theorem inv_no {x : Option FV} {regs : List (Nat × List Value)} {σ' : LH} (hk : k x regs σ' = some res) (hkd : ∀ x, kindOf E f o fr x = none) : Inv E call f o fr σ k res :=
  ⟨x, regs, σ', hk, fun kd hd => by rw [hkd] at hd; cases hd⟩

theorem ev_has {π : Pl} (hp : FrHas fr π) {x : Operand} {y : FV} (h : ∀ (β : Type) (k' : FV → Option β), fr.ev x k' = k' y) : ∃ v, FVR π y v := by
  have h := h FV some
  unfold Fr.ev at h
  cases x with
  | tmp t =>
    simp only at h
    split at h
    · rename_i v hv; cases h; exact hp t _ hv
    · cases h
  | const v =>
    simp only at h
    cases hc : constOk v with
    | true => rw [hc] at h; cases h; exact ⟨_, .val _ _ (constOk_VR π hc)⟩
    | false => rw [hc] at h; cases h
  | func f => cases h; exact ⟨_, .val _ _ (.func f _ _ _ _ rfl rfl (by simp) (by simp))⟩
  | global g => cases h

theorem evV_has {π : Pl} (hp : FrHas fr π) {x : Operand} {y : Value} (h : ∀ (β : Type) (k' : Value → Option β), fr.evV x k' = k' y) : Has π y := by
  have h1 := h Value some
  obtain ⟨z, e1, e2⟩ := ev_inv (show fr.ev x _ = some y from h1)
  obtain ⟨v, hv⟩ := ev_has hp e1
  cases hv with
  | val a b hh => cases e2; exact ⟨_, hh⟩
  | reg => cases e2
  | tup => cases e2
  | und => cases e2

theorem evPs_has {π : Pl} (hp : FrHas fr π) : ∀ {xs : List (Nat × Operand)} {l : List (Nat × Value)}, (∀ (β : Type) (k' : List (Nat × Value) → Option β), fr.evPs xs k' = k' l) → ∀ p ∈ l, Has π p.2
  | [], l, h, p, hm => by
    have := h _ some; cases this; cases hm
  | (i, x) :: xs, l, h, p, hm => by
    have h1 := h _ some
    obtain ⟨v, e1, e2⟩ := evV_inv (show fr.evV x _ = some l from h1)
    obtain ⟨l2, e3, e4⟩ := evPs_inv e2
    cases e4
    cases hm with
    | head => exact evV_has hp e1
    | tail _ hm => exact evPs_has hp e3 p hm

theorem has_cells {π : Pl} {v : Value} (h : Has π v) : ∀ c ∈ v.cells.toList, Has π c := by
  obtain ⟨v', hv⟩ := h
  intro c hc
  obtain ⟨i, hi⟩ := List.getElem?_of_mem hc
  obtain ⟨c', _, h2⟩ := hv.cells.1.get hi
  exact ⟨c', h2⟩

theorem over_mem {l vs : List Value} {off : Nat} {c : Value} (h : c ∈ over l off vs) : c ∈ l ∨ c ∈ vs := by
  unfold over at h
  simp only [List.mem_append] at h
  rcases h with (h | h) | h
  · exact .inl (List.mem_of_mem_take h)
  · exact .inr h
  · exact .inl (List.mem_of_mem_drop h)

theorem fillL_has {π : Pl} {place : Nat → Option (Nat × Nat)} : ∀ {l : List (Nat × Value)} {cells r : List Value}, fillL place cells l = some r → (∀ c ∈ cells, Has π c) → (∀ p ∈ l, Has π p.2) → ∀ c ∈ r, Has π c
  | [], cells, r, h, h1, h2 => by cases h; exact h1
  | (i, v) :: l, cells, r, h, h1, h2 => by
    simp only [fillL] at h
    split at h
    · cases h
    · split at h
      · refine fillL_has h (fun c hc => ?_) fun p hp => h2 p (by simp [hp])
        rcases over_mem hc with hc | hc
        · exact h1 c hc
        · exact has_cells (h2 (i, v) (by simp)) c hc
      · cases h

theorem zeros_mem {z : List Value} {c : Value} : ∀ {n : Nat}, c ∈ zeros z n → c ∈ z
  | 0, h => by cases h
  | n + 1, h => by
    rw [zeros, List.mem_append] at h
    rcases h with h | h
    · exact h
    · exact zeros_mem h

theorem constOk_has (π : Pl) {v : Value} (h : constOk v = true) : Has π v := ⟨v, constOk_VR π h⟩

variable {P : Program} (hE : EnvOk P E)
include hE

theorem zero_has {t : Nat} {ti : TI} (ht : E.ti t = some ti) (π : Pl) : ∀ c ∈ ti.zero, Has π c := by
  obtain ⟨i, d, z, hT⟩ := hE.tiok ht
  exact fun c hc => constOk_has π (hT.zconst c hc)

theorem opC_inv (h : opC E call f o fr σ k = some res) : Inv E call f o fr σ k res := by
  cases ho : o.op with
  | move x =>
    simp only [opC, ho] at h
    obtain ⟨y, h1, h2⟩ := ev_inv h
    exact inv_plain h2 (fun τ β k' => by simp only [opC, ho]; rw [h1]) fun kd h => by simp only [kindOf, ho] at h; cases h; rfl
  | assign x =>
    simp only [opC, ho] at h
    obtain ⟨y, h1, h2⟩ := ev_inv h
    exact inv_plain h2 (fun τ β k' => by simp only [opC, ho]; rw [h1]) fun kd h => by simp only [kindOf, ho] at h; cases h; rfl
  | pick c x y =>
    simp only [opC, ho] at h
    obtain ⟨v, h1, h2⟩ := evV_inv h
    obtain ⟨b, rfl, h3⟩ := asB_some h2
    cases b with
    | true =>
      obtain ⟨y, h4, h5⟩ := ev_inv h3
      exact inv_plain h5 (fun τ β k' => by simp only [opC, ho]; rw [h1]; exact h4 β _) fun kd h => by simp only [kindOf, ho] at h; cases h; rfl
    | false =>
      obtain ⟨y, h4, h5⟩ := ev_inv h3
      exact inv_plain h5 (fun τ β k' => by simp only [opC, ho]; rw [h1]; exact h4 β _) fun kd h => by simp only [kindOf, ho] at h; cases h; rfl
  | alloc T =>
    simp only [opC, ho] at h
    split at h
    · rename_i ti d hti hd
      cases hl : E.loc f d with
      | true =>
        rw [hl] at h
        obtain ⟨h1, h2⟩ := cond_some h
        exact inv_no h2 fun x => by simp [kindOf, ho, hd, hl]
      | false =>
        rw [hl] at h
        refine inv_mk (g := fun b => .pointer (some ⟨b, 0, none⟩)) (blk := { cells := ti.zero }) (.inl rfl) rfl h (fun τ β k' => by simp only [opC, ho, hti, hd, hl]; rfl) (fun π _ => zero_has hE hti π)
          fun x kd h => by simp [kindOf, ho, hd, hl] at h; exact h.symm
    · cases h
  | box T x =>
    simp only [opC, ho] at h
    split at h
    · rename_i ti d hti hd
      obtain ⟨v, h1, h2⟩ := evV_inv h
      obtain ⟨h3, h4⟩ := unC_inv h2
      cases hl : E.loc f d with
      | true =>
        rw [hl] at h4
        obtain ⟨h5, h6⟩ := cond_some h4
        exact inv_no h6 fun x => by simp [kindOf, ho, hd, hl]
      | false =>
        rw [hl] at h4
        refine inv_mk (g := fun b => .pointer (some ⟨b, 0, none⟩)) (blk := { cells := v.cells.toList }) (.inl rfl) rfl h4 (fun τ β k' => by simp only [opC, ho, hti, hd, hl]; rw [h1, h3]; rfl) (fun π hp => has_cells (evV_has hp h1))
          fun x kd h => by simp [kindOf, ho, hd, hl] at h; exact h.symm
    · cases h
  | load T x =>
    simp only [opC, ho] at h
    split at h
    · rename_i ti hti
      obtain ⟨y, h1, h2⟩ := ev_inv h
      cases y with
      | reg t off =>
        simp only at h2
        split at h2
        · rename_i cs hcs
          obtain ⟨v, h3, h4⟩ := rdReg_inv h2
          refine inv_plain h4 (fun τ β k' => by simp only [opC, ho, hti]; rw [h1]; simp only [hcs]; rw [h3]) fun kd h => ?_
          have ha : x = x := rfl
          unfold kindOf at h
          simp only [ho, hti] at h
          split at h
          · rename_i ti' p he1 he2
            have hx : fr.ev x some = some (.val p) := by
              cases x with
              | tmp t => simp only [addrOf] at he2; simp only [Fr.ev, he2]
              | _ => cases he2
            rw [h1] at hx; cases hx
          · cases h; rfl
          · cases h
        · cases h2
      | val p =>
        obtain ⟨v, h3, h4⟩ := bind_some h2
        refine ⟨some (.val v), fr.regs, σ, h4, fun kd hkd => ⟨rfl, ?_⟩⟩
        have hall : ∀ (τ : LH), pLd τ ti.size ti.agg p = some v → ∀ (β : Type) (k' : Option FV → List (Nat × List Value) → LH → Option β), opC E call f o fr τ k' = k' (some (.val v)) fr.regs τ :=
          fun τ ht β k' => by simp only [opC, ho, hti]; rw [h1]; simp only [ht]; rfl
        have hk : kd = .ld p ti.size ti.agg v := by
          unfold kindOf at hkd
          simp only [ho, hti] at hkd
          split at hkd
          · rename_i ti' p' he1 he2
            have hx : fr.ev x some = some (.val p') := by
              cases x with
              | tmp t => simp only [addrOf] at he2; simp only [Fr.ev, he2]
              | _ => cases he2
            rw [h1] at hx; cases hx
            cases he1; cases hkd; rfl
          · rename_i t o' he2
            have hx : fr.ev x some = some (.reg t o') := by
              cases x with
              | tmp t => simp only [addrOf] at he2; simp only [Fr.ev, he2]
              | _ => cases he2
            rw [h1] at hx; cases hx
          · cases hkd
        subst hk
        exact ⟨hall σ h3, nofun, nofun, fun _ _ _ _ h => by cases h; exact ⟨rfl, h3, hall⟩⟩
      | tup => cases h2
      | und => cases h2
    · cases h
  | store T x y =>
    simp only [opC, ho] at h
    split at h
    · rename_i ti hti
      obtain ⟨z, h1, h2⟩ := ev_inv h
      cases z with
      | reg t off =>
        simp only at h2
        split at h2
        · rename_i cs hcs
          obtain ⟨v, h3, h4⟩ := evV_inv h2
          obtain ⟨h5, h6⟩ := unC_inv h4
          obtain ⟨h7, h8⟩ := cond_some h6
          refine inv_no h8 fun x' => ?_
          simp only [kindOf, ho]
          split
          · rename_i p he2
            have hx : fr.ev x some = some (.val p) := by
              cases x with
              | tmp t => simp only [addrOf] at he2; simp only [Fr.ev, he2]
              | _ => cases he2
            rw [h1] at hx; cases hx
          · rfl
        · cases h2
      | val p =>
        obtain ⟨v, h3, h4⟩ := evV_inv (show fr.evV y _ = some res from h2)
        obtain ⟨σ', h5, h6⟩ := bind_some h4
        refine inv_eff h6 (fun β k' => by simp only [opC, ho, hti]; rw [h1]; simp only; rw [h3]; simp only [h5]; rfl) fun kd h => ?_
        simp only [kindOf, ho] at h
        split at h
        · cases h; rfl
        · cases h
      | tup => cases h2
      | und => cases h2
    · cases h
  | fieldAddr T x i =>
    simp only [opC, ho] at h
    split at h
    · rename_i s b g z fs hti
      split at h
      · rename_i off size ag hj
        cases hb : Nat.beq size 0 with
        | true => rw [hb] at h; cases h
        | false =>
          rw [hb] at h
          obtain ⟨y, h1, h2⟩ := ev_inv (show fr.ev x _ = some res from h)
          cases y with
          | reg t oo => exact inv_plain h2 (fun τ β k' => by simp only [opC, ho, hti, hj, hb, cond_false]; rw [h1]) fun kd h => by simp only [kindOf, ho] at h; cases h; rfl
          | val p =>
            obtain ⟨v, h3, h4⟩ := bind_some h2
            exact inv_plain h4 (fun τ β k' => by simp only [opC, ho, hti, hj, hb, cond_false]; rw [h1]; simp only [h3]; rfl) fun kd h => by simp only [kindOf, ho] at h; cases h; rfl
          | tup => cases h2
          | und => cases h2
      · cases h
    · cases h
  | field T x i =>
    simp only [opC, ho] at h
    split at h
    · rename_i s b g z fs hti
      split at h
      · rename_i off size ag hj
        obtain ⟨y, h1, h2⟩ := evV_inv h
        obtain ⟨v, h3, h4⟩ := bind_some h2
        exact inv_plain h4 (fun τ β k' => by simp only [opC, ho, hti, hj]; rw [h1]; simp only [h3]; rfl) fun kd h => by simp only [kindOf, ho] at h; cases h; rfl
      · cases h
    · cases h
  | indexAddr T x i =>
    simp only [opC, ho] at h
    split at h
    · rename_i s b g z e hti
      split at h
      · rename_i te hte
        obtain ⟨y, h1, h2⟩ := evV_inv h
        obtain ⟨u, h3, h4⟩ := evV_inv h2
        obtain ⟨v, h5, h6⟩ := bind_some h4
        exact inv_plain h6 (fun τ β k' => by simp only [opC, ho, hti, hte]; rw [h1, h3]; simp only [h5]; rfl) fun kd h => by simp only [kindOf, ho] at h; cases h; rfl
      · cases h
    · cases h
  | index T x i =>
    simp only [opC, ho] at h
    split at h
    · rename_i s b g z hti
      obtain ⟨y, h1, h2⟩ := evV_inv h
      obtain ⟨u, h3, h4⟩ := evV_inv h2
      obtain ⟨v, h5, h6⟩ := bind_some h4
      exact inv_plain h6 (fun τ β k' => by simp only [opC, ho, hti]; rw [h1, h3]; simp only [h5]; rfl) fun kd h => by simp only [kindOf, ho] at h; cases h; rfl
    · cases h
  | nilCheck x =>
    simp only [opC, ho] at h
    obtain ⟨y, h1, h2⟩ := ev_inv h
    cases y with
    | reg t oo => exact inv_plain h2 (fun τ β k' => by simp only [opC, ho]; rw [h1]) fun kd h => by simp only [kindOf, ho] at h; cases h; rfl
    | val p =>
      obtain ⟨v, h3, h4⟩ := bind_some h2
      exact inv_plain h4 (fun τ β k' => by simp only [opC, ho]; rw [h1]; simp only [h3]; rfl) fun kd h => by simp only [kindOf, ho] at h; cases h; rfl
    | tup => cases h2
    | und => cases h2
  | binOp op T x y T' =>
    simp only [opC, ho] at h
    split at h
    · rename_i ti hti
      obtain ⟨v, h1, h2⟩ := evV_inv h
      obtain ⟨u, h3, h4⟩ := evV_inv h2
      split at h4
      · rename_i fs hsh
        split at h4
        · cases h4
        · rename_i q ks hks
          obtain ⟨r, h5, h6⟩ := bind_some h4
          exact inv_plain h6 (fun τ β k' => by simp only [opC, ho, hti]; rw [h1, h3]; simp only [hsh, hks, h5]; rfl) fun kd h => by simp only [kindOf, ho] at h; cases h; rfl
      · rename_i sh hsh
        obtain ⟨r, h5, h6⟩ := bind_some h4
        refine inv_plain h6 (fun τ β k' => ?_) fun kd h => by simp only [kindOf, ho] at h; cases h; rfl
        simp only [opC, ho, hti]; rw [h1, h3]
        simp only [h5]; rfl
    · cases h
  | unOp op T x =>
    simp only [opC, ho] at h
    obtain ⟨v, h1, h2⟩ := evV_inv h
    obtain ⟨r, h5, h6⟩ := bind_some h2
    exact inv_plain h6 (fun τ β k' => by simp only [opC, ho]; rw [h1]; simp only [h5]; rfl) fun kd h => by simp only [kindOf, ho] at h; cases h; rfl
  | convert S T x =>
    simp only [opC, ho] at h
    split at h
    · rename_i s t hs ht
      split at h
      · rename_i q1 q2 e1 e2
        obtain ⟨v, h1, h2⟩ := evV_inv h
        obtain ⟨r, h5, h6⟩ := bind_some h2
        exact inv_plain h6 (fun τ β k' => by simp only [opC, ho, hs, ht, e1, e2]; rw [h1]; simp only [h5]; rfl) fun kd h => by simp only [kindOf, ho, hs, ht, e1, e2] at h; cases h; rfl
      · rename_i e1 e2
        obtain ⟨v, h1, h2⟩ := evV_inv h
        obtain ⟨r, h5, h6⟩ := bind_some h2
        exact inv_plain h6 (fun τ β k' => by simp only [opC, ho, hs, ht, e1, e2]; rw [h1]; simp only [h5]; rfl) fun kd h => by simp only [kindOf, ho, hs, ht, e1, e2] at h; cases h; rfl
      · rename_i e e1 e2
        split at h
        · rename_i s1 b1 g1 z1 he
          obtain ⟨v, h1, h2⟩ := evV_inv h
          obtain ⟨r, h5, h6⟩ := bind_some h2
          exact inv_eff h6 (fun β k' => by simp only [opC, ho, hs, ht, e1, e2, he]; rw [h1]; simp only [h5]; rfl) fun kd h => by simp only [kindOf, ho, hs, ht, e1, e2] at h; cases h; rfl
        · cases h
      · rename_i e e1 e2
        split at h
        · rename_i s1 b1 g1 z1 he
          obtain ⟨v, h1, h2⟩ := evV_inv h
          obtain ⟨r, h5, h6⟩ := bind_some h2
          exact inv_eff h6 (fun β k' => by simp only [opC, ho, hs, ht, e1, e2, he]; rw [h1]; simp only [h5]; rfl) fun kd h => by simp only [kindOf, ho, hs, ht, e1, e2] at h; cases h; rfl
        · cases h
      · cases h
    · cases h
  | makeFunc fn xs ys =>
    cases fn with
    | func g =>
      simp only [opC, ho] at h
      obtain ⟨l, h1, h2⟩ := evVs_inv h
      obtain ⟨l2, h3, h4⟩ := evVs_inv h2
      exact inv_plain h4 (fun τ β k' => by simp only [opC, ho]; rw [h1, h3]) fun kd h => by simp only [kindOf, ho] at h; cases h; rfl
    | _ => simp [opC, ho] at h
  | makeSlice T x y =>
    simp only [opC, ho] at h
    split at h
    · rename_i s b g z e hti
      split at h
      · rename_i te hte
        obtain ⟨v, h1, h2⟩ := evV_inv h
        obtain ⟨u, h3, h4⟩ := evV_inv h2
        obtain ⟨r, h5, h6⟩ := bind_some h4
        unfold pMS at h5
        split at h5
        · rename_i l c
          split at h5
          · rename_i hcond
            cases h5
            refine inv_mk (g := fun b => .slice (some ⟨b, 0, some te.size⟩) l.toNat (capE c.toNat)) (blk := { cells := zeros te.zero c.toNat }) (.inr ⟨_, _, _, rfl⟩) rfl h6
              (fun τ β k' => by simp only [opC, ho, hti, hte]; rw [h1, h3]; simp only [pMS, hcond, and_self, if_true]; rfl)
              (fun π hp c hc => zero_has hE hte π c (zeros_mem hc)) fun x kd h => by simp only [kindOf, ho] at h; cases h; rfl
          · cases h5
        · cases h5
      · cases h
    · cases h
  | slice T x lo hi mx =>
    simp only [opC, ho] at h
    split at h
    · rename_i s b g z e hti
      split at h
      · rename_i te hte
        obtain ⟨v, h1, h2⟩ := evV_inv h
        obtain ⟨l, h3, h4⟩ := evO_inv h2
        obtain ⟨hh, h5, h6⟩ := evO_inv h4
        obtain ⟨m, h7, h8⟩ := evO_inv h6
        obtain ⟨r, h9, h10⟩ := bind_some h8
        exact inv_plain h10 (fun τ β k' => by simp only [opC, ho, hti, hte]; rw [h1, h3, h5, h7]; simp only [h9]; rfl) fun kd h => by simp only [kindOf, ho] at h; cases h; rfl
      · cases h
    · rename_i s b g z hti
      split at h
      · obtain ⟨v, h1, h2⟩ := evV_inv h
        obtain ⟨l, h3, h4⟩ := evO_inv h2
        obtain ⟨hh, h5, h6⟩ := evO_inv h4
        obtain ⟨r, h9, h10⟩ := bind_some h6
        exact inv_plain h10 (fun τ β k' => by simp only [opC, ho, hti]; rw [h1, h3, h5]; simp only [h9]; rfl) fun kd h => by simp only [kindOf, ho] at h; cases h; rfl
      · cases h
    · cases h
  | build T ps =>
    simp only [opC, ho] at h
    split at h
    · rename_i s b g z fs hti
      obtain ⟨l, h1, h2⟩ := evPs_inv h
      obtain ⟨r, h9, h10⟩ := bind_some h2
      exact inv_plain h10 (fun τ β k' => by simp only [opC, ho, hti]; rw [h1]; simp only [h9]; rfl) fun kd h => by simp only [kindOf, ho] at h; cases h; rfl
    · cases h
  | buildSlice T n ps =>
    simp only [opC, ho] at h
    split at h
    · rename_i s b g z e hti
      split at h
      · rename_i te hte
        obtain ⟨l, h1, h2⟩ := evPs_inv h
        obtain ⟨r, h5, h6⟩ := bind_some h2
        unfold pBS at h5
        split at h5
        · rename_i hcond
          obtain ⟨cs, h7, h8⟩ := Option.map_eq_some_iff.mp h5
          subst h8
          refine inv_mk (g := fun b => .slice (some ⟨b, 0, some te.size⟩) n (capE n)) (blk := { cells := cs }) (.inr ⟨_, _, _, rfl⟩) rfl h6
            (fun τ β k' => by simp only [opC, ho, hti, hte]; rw [h1]; simp only [pBS, hcond, and_self, if_true, h7]; rfl)
            (fun π hp => fillL_has h7 (fun c hc => zero_has hE hte π c (zeros_mem hc)) (evPs_has hp h1)) fun x kd h => by simp only [kindOf, ho] at h; cases h; rfl
        · cases h5
      · cases h
    · cases h
  | extract x i =>
    simp only [opC, ho] at h
    obtain ⟨y, h1, h2⟩ := ev_inv h
    cases y with
    | tup l =>
      simp only at h2
      split at h2
      · rename_i v hv
        exact inv_plain h2 (fun τ β k' => by simp only [opC, ho]; rw [h1]; simp only [hv]) fun kd h => by simp only [kindOf, ho] at h; cases h; rfl
      · cases h2
    | reg => cases h2
    | val => cases h2
    | und => cases h2
  | call c =>
    obtain ⟨cal, xs, ts⟩ := c
    cases cal with
    | value g =>
      simp only [opC, ho] at h
      obtain ⟨v, h1, h2⟩ := evV_inv h
      obtain ⟨gf, A, B, rfl, h3⟩ := asF_some h2
      obtain ⟨l, h4, h5⟩ := evVs_inv h3
      obtain ⟨r, h6, h7⟩ := bind_some h5
      split at h7
      · rename_i ht
        obtain ⟨x, h8, h9⟩ := unN1 h7
        refine inv_eff h9 (fun β k' => ?_) fun kd h => by simp only [kindOf, ho] at h; cases h; rfl
        simp only [opC, ho]; rw [h1]; simp only [asF]; rw [h4]; simp only [h6, Option.bind_some, ht, h8]; rfl
      · rename_i n ht
        cases hb : Nat.beq n 1 with
        | true => rw [hb] at h7; cases h7
        | false =>
          rw [hb] at h7
          obtain ⟨h8, h9⟩ := unN_inv (show unN n r.1 _ = some res from h7)
          refine inv_eff h9 (fun β k' => ?_) fun kd h => by simp only [kindOf, ho] at h; cases h; rfl
          simp only [opC, ho]; rw [h1]; simp only [asF]; rw [h4]; simp only [h6, Option.bind_some, ht, hb, cond_false]; rw [h8]
    | builtin b =>
      cases b <;> simp only [opC, ho] at h <;> try (cases h; done)
      case append =>
        split at h
        · rename_i x y T U hx hts
          split at h
          · rename_i s b g z e u hti htu
            split at h
            · rename_i te e1 hte hsh
              obtain ⟨v, h1, h2⟩ := evV_inv h
              obtain ⟨v2, h3, h4⟩ := evV_inv h2
              obtain ⟨r, h5, h6⟩ := bind_some h4
              exact inv_eff h6 (fun β k' => by simp only [opC, ho, hx, hts, hti, htu, hte, hsh]; rw [h1, h3]; simp only [h5]; rfl) fun kd h => by simp only [kindOf, ho] at h; cases h; rfl
            · rename_i te hte hsh
              obtain ⟨v, h1, h2⟩ := evV_inv h
              obtain ⟨v2, h3, h4⟩ := evV_inv h2
              obtain ⟨r, h5, h6⟩ := bind_some h4
              exact inv_eff h6 (fun β k' => by simp only [opC, ho, hx, hts, hti, htu, hte, hsh]; rw [h1, h3]; simp only [h5]; rfl) fun kd h => by simp only [kindOf, ho] at h; cases h; rfl
            · cases h
          · cases h
        · cases h
      case cap =>
        split at h
        · rename_i x T hx hts
          split at h
          · rename_i s b g z e hti
            obtain ⟨v, h1, h2⟩ := evV_inv h
            obtain ⟨r, h5, h6⟩ := bind_some h2
            exact inv_plain h6 (fun τ β k' => by simp only [opC, ho, hx, hts, hti]; rw [h1]; simp only [h5]; rfl) fun kd h => by simp only [kindOf, ho] at h; cases h; rfl
          · cases h
        · cases h
      case len =>
        split at h
        · rename_i x T hx hts
          split at h
          · rename_i s b g z e hti
            obtain ⟨v, h1, h2⟩ := evV_inv h
            obtain ⟨r, h5, h6⟩ := bind_some h2
            exact inv_plain h6 (fun τ β k' => by simp only [opC, ho, hx, hts, hti]; rw [h1]; simp only [h5]; rfl) fun kd h => by simp only [kindOf, ho] at h; cases h; rfl
          · rename_i s b g z hti
            obtain ⟨v, h1, h2⟩ := evV_inv h
            obtain ⟨r, h5, h6⟩ := bind_some h2
            exact inv_plain h6 (fun τ β k' => by simp only [opC, ho, hx, hts, hti]; rw [h1]; simp only [h5]; rfl) fun kd h => by simp only [kindOf, ho] at h; cases h; rfl
          · cases h
        · cases h
      case copy =>
        split at h
        · rename_i x y T rest hx hts
          split at h
          · rename_i s b g z e hti
            split at h
            · rename_i te hte
              obtain ⟨v, h1, h2⟩ := evV_inv h
              obtain ⟨v2, h3, h4⟩ := evV_inv h2
              obtain ⟨r, h5, h6⟩ := bind_some h4
              exact inv_eff h6 (fun β k' => by simp only [opC, ho, hx, hts, hti, hte]; rw [h1, h3]; simp only [h5]; rfl) fun kd h => by simp only [kindOf, ho] at h; cases h; rfl
            · cases h
          · cases h
        · cases h
      case clear =>
        split at h
        · rename_i x T hx hts
          split at h
          · rename_i s b g z e hti
            split at h
            · rename_i te hte
              obtain ⟨v, h1, h2⟩ := evV_inv h
              obtain ⟨r, h5, h6⟩ := bind_some h2
              exact inv_eff h6 (fun β k' => by simp only [opC, ho, hx, hts, hti, hte]; rw [h1]; simp only [h5]; rfl) fun kd h => by simp only [kindOf, ho] at h; cases h; rfl
            · cases h
          · cases h
        · cases h
      case min =>
        split at h
        · rename_i x y hx
          obtain ⟨v, h1, h2⟩ := evV_inv h
          obtain ⟨v2, h3, h4⟩ := evV_inv h2
          obtain ⟨r, h5, h6⟩ := bind_some h4
          exact inv_plain h6 (fun τ β k' => by simp only [opC, ho, hx]; rw [h1, h3]; simp only [h5]; rfl) fun kd h => by simp only [kindOf, ho] at h; cases h; rfl
        · cases h
      case max =>
        split at h
        · rename_i x y hx
          obtain ⟨v, h1, h2⟩ := evV_inv h
          obtain ⟨v2, h3, h4⟩ := evV_inv h2
          obtain ⟨r, h5, h6⟩ := bind_some h4
          exact inv_plain h6 (fun τ β k' => by simp only [opC, ho, hx]; rw [h1, h3]; simp only [h5]; rfl) fun kd h => by simp only [kindOf, ho] at h; cases h; rfl
        · cases h
    | invoke r m => simp [opC, ho] at h
  | _ => simp [opC, ho] at h
end
end Go.Lg
