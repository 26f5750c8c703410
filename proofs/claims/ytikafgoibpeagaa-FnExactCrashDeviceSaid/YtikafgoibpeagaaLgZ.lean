/- A region that draws its order: whatever order is drawn, it comes to what the text says. -/
import Derived.Test.YtikafgoibpeagaaLgX
namespace Go.Lg
set_option linter.unusedVariables false
set_option linter.unusedSimpArgs false
set_option linter.unusedSectionVars false

theorem HR.congr {m m' : Mem} {π : Pl} {w : World} (h : HR m π w) (hm : ∀ k e, π k = some e → m' k = m k) : HR m' π w :=
  ⟨fun k e blk i v hk hb hi => h.cell k e blk i v hk (by rw [← hm k e hk]; exact hb) hi, fun k blk ⟨e, hk⟩ hb => h.ones k blk ⟨e, hk⟩ (by rw [← hm k e hk]; exact hb),
    fun k e blk hk hb hw => h.own k e blk hk (by rw [← hm k e hk]; exact hb) hw, fun k k' e e' blk blk' hk hk' hb hb' => h.inj k k' e e' blk blk' hk hk' (by rw [← hm k e hk]; exact hb) (by rw [← hm k' e' hk']; exact hb'), h.lt⟩

theorem Step.grow {m m' : Mem} {nx nx' : Nat} {π : Pl} {w : World} (hn : nx ≤ nx') (hm : ∀ b, b < nx → m' (.hp b) = m (.hp b)) : Step m nx π w m' nx' π w :=
  ⟨rfl, rfl, rfl, Nat.le_refl _, hn, fun _ _ => rfl, fun _ _ _ => rfl, fun b hb _ => hm b hb, fun b blk' hb h => ⟨blk', by rw [← hm b hb]; exact h, rfl, fun _ => rfl⟩, fun k e hk => .inl hk⟩

theorem HR.rename {m0 : Mem} {π π' : Pl} {w w' : World} {K K' : Nat} {blk : Blk} (h0 : HR m0 π w) (h : HR (upd m0 (.hp K') (some blk)) π' w') (hm : More' π π') (hold : ∀ k, k ≠ .hp K' → π' k = π k)
    (hK : π (.hp K) = none) (hKK : K ≠ K') (hmK : m0 (.hp K) = some blk) (hK0 : π (.hp K') = none) (hhas : ∀ c ∈ blk.cells, Has π c) :
    HR m0 (upd π (.hp K) (π' (.hp K'))) w' := by
  have hmore : More π (upd π (.hp K) (π' (.hp K'))) := fun b e hb => by
    rw [upd_ne]; exact hb
    intro he; rw [he, hK] at hb; cases hb
  have tr : ∀ k e, upd π (.hp K) (π' (.hp K')) k = some e → ∃ k2, π' k2 = some e ∧ upd m0 (.hp K') (some blk) k2 = m0 k ∧ ((k = .hp K ∧ k2 = .hp K') ∨ (k ≠ .hp K ∧ k2 = k ∧ k ≠ .hp K')) := by
    intro k e hk
    by_cases he : k = .hp K
    · subst he
      rw [upd_same] at hk
      exact ⟨.hp K', hk, by rw [upd_same, hmK], .inl ⟨rfl, rfl⟩⟩
    · rw [upd_ne _ _ he] at hk
      have hne : k ≠ .hp K' := fun h2 => by rw [h2, hK0] at hk; cases hk
      exact ⟨k, hm k e hk, by rw [upd_ne _ _ hne], .inr ⟨he, rfl, hne⟩⟩
  refine ⟨?_, ?_, ?_, ?_, ?_⟩
  · intro k e blk2 i v hk hb hi
    obtain ⟨k2, h1, h2, h3⟩ := tr k e hk
    obtain ⟨v', g1, g2⟩ := h.cell k2 e blk2 i v h1 (by rw [h2]; exact hb) hi
    refine ⟨v', g1, VR.mono hmore (Has.back hm.hp g2 ?_)⟩
    rcases h3 with ⟨rfl, rfl⟩ | ⟨h4, rfl, _⟩
    · rw [hmK] at hb; cases hb; exact hhas v (List.mem_of_getElem? hi)
    · rw [upd_ne _ _ h4] at hk
      obtain ⟨v2, _, g3⟩ := h0.cell k2 e blk2 i v hk hb hi
      exact ⟨v2, g3⟩
  · intro k blk2 ⟨e, hk⟩ hb
    obtain ⟨k2, h1, h2, _⟩ := tr k e hk
    exact h.ones k2 blk2 ⟨e, h1⟩ (by rw [h2]; exact hb)
  · intro k e blk2 hk hb hw
    obtain ⟨k2, h1, h2, _⟩ := tr k e hk
    exact h.own k2 e blk2 h1 (by rw [h2]; exact hb) hw
  · intro k k' e e' b1 b2 hk hk' hb hb' hne hr
    obtain ⟨k2, h1, h2, h3⟩ := tr k e hk
    obtain ⟨k3, g1, g2, g3⟩ := tr k' e' hk'
    refine h.inj k2 k3 e e' b1 b2 h1 g1 (by rw [h2]; exact hb) (by rw [g2]; exact hb') ?_ hr
    rcases h3 with ⟨a1, a2⟩ | ⟨a1, a2, a3⟩ <;> rcases g3 with ⟨c1, c2⟩ | ⟨c1, c2, c3⟩
    · exact absurd (a1.trans c1.symm) hne
    · rw [a2, c2]; exact fun h => c3 h.symm
    · rw [a2, c2]; exact a3
    · rw [a2, c2]; exact hne
  · intro k e hk
    obtain ⟨k2, h1, _, _⟩ := tr k e hk
    exact h.lt k2 e h1

def MD (σ : LH) : Prop := ∀ b, σ.next ≤ b → σ.mem b = none
structure Flat (σ σ' : LH) : Prop where
  nx : σ.next ≤ σ'.next
  eq : ∀ b, b < σ.next → σ'.mem b = σ.mem b
  md : MD σ → MD σ'
theorem Flat.refl (σ : LH) : Flat σ σ := ⟨Nat.le_refl _, fun _ _ => rfl, id⟩
theorem Flat.trans {a b c : LH} (h : Flat a b) (k : Flat b c) : Flat a c := ⟨Nat.le_trans h.nx k.nx, fun x hx => (k.eq x (Nat.lt_of_lt_of_le hx h.nx)).trans (h.eq x hx), fun m => k.md (h.md m)⟩
theorem Flat.push (σ : LH) (blk : Blk) : Flat σ (σ.push blk) :=
  ⟨Nat.le_succ _, fun b hb => by simp only [LH.push]; rw [if_neg (by omega)], fun h b hb => by simp only [LH.push] at hb ⊢; rw [if_neg (by omega)]; exact h b (by omega)⟩
theorem pLd_flat {σ σ' : LH} (hf : Flat σ σ') (hm : MD σ) {size : Nat} {ag : Bool} {p v : Value} (h : pLd σ size ag p = some v) : pLd σ' size ag p = some v := by
  unfold pLd at h ⊢
  split at h
  · rename_i ad
    cases hb : σ.mem ad.block with
    | none => rw [hb] at h; cases h
    | some blk =>
      have hlt : ad.block < σ.next := by
        rcases Nat.lt_or_ge ad.block σ.next with h' | h'
        · exact h'
        · rw [hm _ h'] at hb; cases hb
      rw [hf.eq _ hlt]; exact h
  · cases h

section
variable {P : Program} {E : Env} {call : Cal} {f : Nat} {ops : Array Oper} {n0 : Nat} {regs0 : List (Nat × List Value)} {S : Nat → St}
  (hk : drawOk ops.toList = true)
  (hF : ∀ (q : Nat) o i, (ordD ops.toList)[q]? = some (o, i) → Fact E call f ops n0 regs0 o (S q) (S (q + 1)))
  (hP : ∀ (q q' : Nat), q < q' → ∀ o i o' i', (ordD ops.toList)[q]? = some (o, i) → (ordD ops.toList)[q']? = some (o', i') → PairOk (befs ops.toList []) i (S q).kd (S q).σ i' (S q').kd (S (q' + 1)).σ)

include hk in
theorem drawOk_parts : tmpOk ops.toList (befs ops.toList []) = true ∧ edgesOk ops.toList = true ∧ ordOk (ordD ops.toList) [] = true := by
  unfold drawOk at hk
  simp only [Bool.and_eq_true] at hk
  exact ⟨hk.1.1, hk.1.2, hk.2⟩

include hF in
theorem flat1 {q : Nat} {o : Oper} {i : Nat} (h : (ordD ops.toList)[q]? = some (o, i)) (hne : (S q).kd ≠ .eff) : Flat (S q).σ (S (q + 1)).σ ∧ ((S q).kd = .mk → (S (q + 1)).σ.next = (S q).σ.next + 1) := by
  have hf := hF q o i h
  cases hr : (S q).run with
  | false =>
    obtain ⟨_, h2, h3⟩ := hf.skip hr
    rw [h2, h3]; exact ⟨Flat.refl _, nofun⟩
  | true =>
    obtain ⟨l, _, ho⟩ := hf.run hr
    cases hkd : (S q).kd with
    | plain => rw [(ho.plain hkd).1]; exact ⟨Flat.refl _, nofun⟩
    | mk =>
      obtain ⟨blk, g, _, _, _, h5, _⟩ := ho.mkk hkd
      rw [h5]; exact ⟨Flat.push _ _, fun _ => rfl⟩
    | ld p s ag v => rw [(ho.ld p s ag v hkd).1]; exact ⟨Flat.refl _, nofun⟩
    | eff => exact absurd hkd hne

include hF in
theorem flat {q : Nat} : ∀ (q' : Nat), q ≤ q' → q' ≤ (ordD ops.toList).length → (∀ r, q ≤ r → r < q' → (S r).kd ≠ .eff) → Flat (S q).σ (S q').σ
  | 0, h, _, _ => by have : q = 0 := by omega
                     subst this; exact Flat.refl _
  | q' + 1, h, hN, hno => by
    rcases Nat.eq_or_lt_of_le h with rfl | hlt
    · exact Flat.refl _
    · have hl : q' < (ordD ops.toList).length := by omega
      have h1 := flat q' (by omega) (by omega) fun r h1 h2 => hno r h1 (by omega)
      exact h1.trans (flat1 hF (o := ((ordD ops.toList)[q']).1) (i := ((ordD ops.toList)[q']).2) (List.getElem?_eq_getElem hl) (hno q' (by omega) (by omega))).1

theorem lastEff (p : Nat) : ∀ m, p ≤ m → (∀ r, p ≤ r → r < m → (S r).kd ≠ .eff) ∨ ∃ e, p ≤ e ∧ e < m ∧ (S e).kd = .eff ∧ ∀ r, e < r → r < m → (S r).kd ≠ .eff
  | 0, h => .inl fun r h1 h2 => by omega
  | m + 1, h => by
    rcases Nat.eq_or_lt_of_le h with rfl | hlt
    · exact .inl fun r h1 h2 => by omega
    · by_cases he : (S m).kd = .eff
      · exact .inr ⟨m, by omega, by omega, he, fun r h1 h2 => by omega⟩
      · rcases lastEff p m (by omega) with h1 | ⟨e, h1, h2, h3, h4⟩
        · refine .inl fun r h2 h3 => ?_
          rcases Nat.lt_or_ge r m with h4 | h4
          · exact h1 r h2 h4
          · rw [show r = m by omega]; exact he
        · refine .inr ⟨e, h1, by omega, h3, fun r h5 h6 => ?_⟩
          rcases Nat.lt_or_ge r m with h7 | h7
          · exact h4 r h5 h7
          · rw [show r = m by omega]; exact he

theorem nextEff (N : Nat) : ∀ (d m0 : Nat), N - m0 = d → m0 ≤ N → ∃ m', m0 ≤ m' ∧ m' ≤ N ∧ (∀ r, m0 ≤ r → r < m' → (S r).kd ≠ .eff) ∧ (m' < N → (S m').kd = .eff)
  | 0, m0, h, h2 => ⟨m0, Nat.le_refl _, h2, fun r h3 h4 => by omega, fun h3 => by omega⟩
  | d + 1, m0, h, h2 => by
    by_cases he : (S m0).kd = .eff
    · exact ⟨m0, Nat.le_refl _, h2, fun r h3 h4 => by omega, fun _ => he⟩
    · obtain ⟨m', h3, h4, h5, h6⟩ := nextEff N d (m0 + 1) (by omega) (by omega)
      refine ⟨m', by omega, h4, fun r h7 h8 => ?_, h6⟩
      rcases Nat.eq_or_lt_of_le h7 with rfl | hlt
      · exact he
      · exact h5 r hlt h8

include hF in
theorem Tchar {t : Nat} {y : FV} : ∀ (p : Nat), p ≤ (ordD ops.toList).length → (S p).T t = some (some y) →
    (∃ q o i, q < p ∧ (ordD ops.toList)[q]? = some (o, i) ∧ o.dst = some t ∧ (S q).x = some y) ∨ ((∀ (q : Nat) o i, q < p → (ordD ops.toList)[q]? = some (o, i) → o.dst ≠ some t) ∧ (S 0).T t = some (some y))
  | 0, _, h => .inr ⟨fun q o i hq => by omega, h⟩
  | p + 1, hp, h => by
    have hl : p < (ordD ops.toList).length := by omega
    obtain ⟨o, i, ho⟩ : ∃ o i, (ordD ops.toList)[p]? = some (o, i) := ⟨_, _, List.getElem?_eq_getElem hl⟩
    rw [(hF p o i ho).T' t] at h
    by_cases hd : o.dst = some t
    · rw [if_pos hd] at h; exact .inl ⟨p, o, i, by omega, ho, hd, by simpa using h⟩
    · rw [if_neg hd] at h
      rcases Tchar p (by omega) h with ⟨q, o1, i1, h1, h2⟩ | ⟨h1, h2⟩
      · exact .inl ⟨q, o1, i1, by omega, h2⟩
      · refine .inr ⟨fun q o1 i1 hq he => ?_, h2⟩
        rcases Nat.lt_or_ge q p with h3 | h3
        · exact h1 q o1 i1 h3 he
        · rw [show q = p by omega, ho] at he; cases he; exact hd

/-- listed -/
abbrev Lst (listed : Array Bool) (i : Nat) : Prop := listed.getD i false = true

/-- the temporaries, midway -/
structure TmI (n0 : Nat) (ops : Array Oper) (S : Nat → St) (listed : Array Bool) (a : Act) (π : Pl) : Prop where
  sz : a.tmps.size = n0
  df : a.defers = []
  tmW : ∀ (q : Nat) o i t y, (ordD ops.toList)[q]? = some (o, i) → Lst listed i → o.dst = some t → (S q).x = some y → FVR π y (a.tmps.getD t undef)
  tmI : ∀ t y, (∀ (q : Nat) o i, (ordD ops.toList)[q]? = some (o, i) → Lst listed i → o.dst ≠ some t) → (S 0).T t = some (some y) → FVR π y (a.tmps.getD t undef)
  cl : ∀ i o, Lst listed i → ops[i]? = some o → ∀ e ∈ o.after, Region.binds .any e = true → Lst listed e.on
  ls : listed.size = ops.size

/-- the heap, midway: all changes of the heap ahead of number m are done, and none behind it -/
structure HpI (ops : Array Oper) (S : Nat → St) (regs0 : List (Nat × List Value)) (π0 : Pl) (w0 : World) (listed : Array Bool) (π : Pl) (w : World) (m : Nat) : Prop where
  le : m ≤ (ordD ops.toList).length
  effs : ∀ (q : Nat) o i, q < m → (ordD ops.toList)[q]? = some (o, i) → (S q).kd = .eff → Lst listed i
  here : ∀ o i, (ordD ops.toList)[m]? = some (o, i) → (S m).kd = .eff ∧ ¬ Lst listed i
  st : Step (cm regs0 (S 0).σ.mem) (S 0).σ.next π0 w0 (cm regs0 (S m).σ.mem) (S m).σ.next π w
  hr : HR (cm regs0 (S m).σ.mem) π w
  dom : ∀ b, (S m).σ.next ≤ b → π (.hp b) = none
  rg : ∀ t e, π (.rg t) = some e → ∃ cs, look regs0 t = some cs
  rg' : ∀ t cs, look regs0 t = some cs → ∃ e, π (.rg t) = some e
  md : ∀ q, q ≤ m → MD (S q).σ
  mo : ∀ q q', q ≤ q' → q' ≤ m → (S q).σ.next ≤ (S q').σ.next
  un : ∀ (p : Nat) o i, p < m → (ordD ops.toList)[p]? = some (o, i) → (S p).kd = .mk → ¬ Lst listed i → π (.hp (S p).σ.next) = none ∧ (S m).σ.mem (S p).σ.next = (S (p + 1)).σ.mem (S p).σ.next ∧ (S p).σ.next < (S m).σ.next

theorem lst_or {listed : Array Bool} {i : Nat} (h : listed.getD i true = false) : ¬ Lst listed i := by
  intro h2
  unfold Lst at h2
  rw [Array.getD_eq_getD_getElem?] at h h2
  cases hh : listed[i]? with
  | none => rw [hh] at h; cases h
  | some x => rw [hh] at h h2; simp at h h2; rw [h] at h2; cases h2

theorem lst_set {listed : Array Bool} {i j : Nat} (hi : i < listed.size) : Lst (listed.setIfInBounds i true) j ↔ j = i ∨ Lst listed j := by
  by_cases he : j = i
  · subst he
    refine ⟨fun _ => .inl rfl, fun _ => ?_⟩
    unfold Lst; rw [Array.getD_eq_getD_getElem?]; simp [hi]
  · refine ⟨fun h => .inr ?_, fun h => ?_⟩
    · unfold Lst at h ⊢; rw [getD_set_ne false (Ne.symm he)] at h; exact h
    · rcases h with h | h
      · exact absurd h he
      · exact getD_set_true h

variable {listed : Array Bool} {a : Act} {π π0 : Pl} {w w0 : World} {m : Nat}

include hk in
theorem TmI.looked (ht : TmI n0 ops S listed a π) (hF : ∀ (q : Nat) o i, (ordD ops.toList)[q]? = some (o, i) → Fact E call f ops n0 regs0 o (S q) (S (q + 1))) {p : Nat} {o : Oper} {i : Nat} (hp : (ordD ops.toList)[p]? = some (o, i)) (hu : ¬ Lst listed i) (hr : ∀ e ∈ o.after, Region.binds .any e = true → Lst listed e.on) :
    ∀ t ∈ o.looksAt ops, ∀ y, (S p).T t = some (some y) → FVR π y (a.tmps.getD t undef) := by
  obtain ⟨k1, k2, k3⟩ := drawOk_parts hk
  intro t hm y hy
  have hlen : p < (ordD ops.toList).length := (List.getElem?_eq_some_iff.1 hp).1
  have hoi := ordD_of hp
  rcases Tchar hF p (Nat.le_of_lt hlen) hy with ⟨q, o2, j, hq, hoj, hd, hx⟩ | ⟨hno, h0⟩
  · have hne : i ≠ j := fun he => by subst he; have := ordD_inj hoj hp; omega
    rcases (tmpOk_spec k1 (ordD_of hoj) hoi hd hne).2 hm with h | h
    · have := ahead_pos k2 k3 j i h q p o2 o hoj hp; omega
    · exact ht.tmW q o2 j t y hoj (ahead_closed k2 (D := Lst listed) ht.cl i j h fun o' ho' => by rw [hoi] at ho'; cases ho'; exact hr) hd hx
  · refine ht.tmI t y (fun q o2 j hoj hl hd => ?_) h0
    have hne : i ≠ j := fun he => by subst he; exact hu hl
    rcases Nat.lt_or_ge q p with hq | hq
    · exact hno q o2 j hq hoj hd
    · rcases (tmpOk_spec k1 (ordD_of hoj) hoi hd hne).2 hm with h | h
      · exact hu (ahead_closed k2 (D := Lst listed) ht.cl j i h fun o' ho' => ht.cl j o' hl ho')
      · have := ahead_pos k2 k3 i j h p q o o2 hp hoj; omega

include hk in
theorem TmI.put (ht : TmI n0 ops S listed a π) {π' : Pl} (hm : More' π π') {p : Nat} {o : Oper} {i : Nat} (hp : (ordD ops.toList)[p]? = some (o, i)) (hu : ¬ Lst listed i) (hr : ∀ e ∈ o.after, Region.binds .any e = true → Lst listed e.on)
    (hd : dstOk o n0 = true) {v : Value} (hx : ∀ y, (S p).x = some y → FVR π' y v) : TmI n0 ops S (listed.setIfInBounds i true) (a.put o.dst v) π' := by
  obtain ⟨k1, k2, k3⟩ := drawOk_parts hk
  have hoi := ordD_of hp
  have hi : i < listed.size := by rw [ht.ls]; exact (Array.getElem?_eq_some_iff.1 hoi).1
  have other : ∀ t, o.dst ≠ some t → (a.put o.dst v).tmps.getD t undef = a.tmps.getD t undef := by
    intro t hne
    cases ho : o.dst with
    | none => rfl
    | some d => exact getD_set_ne' v (fun he => hne (by rw [ho, he]))
  refine ⟨?_, ?_, ?_, ?_, ?_, by simp [ht.ls]⟩
  · cases ho : o.dst with
    | none => exact ht.sz
    | some d => show (a.tmps.setIfInBounds d v).size = _; rw [Array.size_setIfInBounds]; exact ht.sz
  · cases ho : o.dst <;> exact ht.df
  · intro q o2 j t y hoj hl hdt hxy
    rcases (lst_set hi).1 hl with he | hl
    · subst he
      have hqp := ordD_inj hoj hp; subst hqp
      rw [hp] at hoj; cases hoj
      have hlt : t < a.tmps.size := by
        rw [ht.sz]; unfold dstOk at hd; rw [hdt] at hd; exact Nat.blt_eq.mp hd
      rw [hdt]
      show FVR π' y ((a.tmps.setIfInBounds t v).getD t undef)
      rw [getD_set_same v hlt]; exact hx y hxy
    · have hne : i ≠ j := fun he => hu (by rw [he]; exact hl)
      rw [other t fun h2 => (tmpOk_spec k1 (ordD_of hoj) hoi hdt hne).1 h2]
      exact (ht.tmW q o2 j t y hoj hl hdt hxy).mono hm
  · intro t y hno h0
    have h1 : o.dst ≠ some t := hno p o i hp ((lst_set hi).2 (.inl rfl))
    rw [other t h1]
    exact (ht.tmI t y (fun q o2 j hoj hl => hno q o2 j hoj ((lst_set hi).2 (.inr hl))) h0).mono hm
  · intro j o2 hl ho2 e he hb
    rcases (lst_set hi).1 hl with h | hl
    · subst h; rw [hoi] at ho2; cases ho2
      exact (lst_set hi).2 (.inr (hr e he hb))
    · exact (lst_set hi).2 (.inr (ht.cl j o2 hl ho2 e he hb))
end
end Go.Lg
