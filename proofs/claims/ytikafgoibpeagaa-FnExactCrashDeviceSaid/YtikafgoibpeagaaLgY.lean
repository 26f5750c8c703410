/- A region that draws its order: its run is alike to the model's, whatever order is drawn. -/
import Derived.Test.YtikafgoibpeagaaLgZ
namespace Go.Lg
set_option linter.unusedVariables false
set_option linter.unusedSimpArgs false
set_option linter.unusedSectionVars false

theorem look_filter {α : Type} (lk : List Nat) : ∀ (l : List (Nat × α)) (t : Nat) (y : α), look (l.filter (fun p => lk.any (Nat.beq p.1))) t = some y → t ∈ lk ∧ look l t = some y
  | [], t, y, h => by simp [look] at h
  | (u, x) :: l, t, y, h => by
    rw [List.filter_cons] at h
    split at h
    · rename_i hu
      by_cases he : u = t
      · subst he
        rw [look_cons_same] at h
        obtain ⟨z, hz, hzz⟩ := List.any_eq_true.1 hu
        exact ⟨by rw [show u = z from Nat.eq_of_beq_eq_true hzz]; exact hz, by rw [look_cons_same]; exact h⟩
      · rw [look_cons_ne _ _ he] at h
        obtain ⟨h1, h2⟩ := look_filter lk l t y h
        exact ⟨h1, by rw [look_cons_ne _ _ he]; exact h2⟩
    · rename_i hu
      obtain ⟨h1, h2⟩ := look_filter lk l t y h
      refine ⟨h1, ?_⟩
      by_cases he : u = t
      · subst he
        exact absurd (List.any_eq_true.2 ⟨u, h1, by simp⟩) hu
      · rw [look_cons_ne _ _ he]; exact h2

theorem Begin.of {fr : Fr} {σ : LH} {π : Pl} {a : Act} {w : World} (h : Rel fr σ π a w) : Begin (cm fr.regs σ.mem) σ.next π := h.begin

section
variable {P : Program} {E : Env} (hE : EnvOk P E) (hq : ∀ T q ks, E.eqT T = q :: ks → eqTOk P T (q :: ks) = true) {call : Cal} (hc : CallOk P call) {f : Nat} {ops : Array Oper} {n0 : Nat} {regs0 : List (Nat × List Value)} {S : Nat → St}
  (hk : drawOk ops.toList = true)
  (hF : ∀ (q : Nat) o i, (ordD ops.toList)[q]? = some (o, i) → Fact E call f ops n0 regs0 o (S q) (S (q + 1)))
  (hP : ∀ (q q' : Nat), q < q' → ∀ o i o' i', (ordD ops.toList)[q]? = some (o, i) → (ordD ops.toList)[q']? = some (o', i') → PairOk (befs ops.toList []) i (S q).kd (S q).σ i' (S q').kd (S (q' + 1)).σ)
  {π0 : Pl} {w0 : World} (hB : Begin (cm regs0 (S 0).σ.mem) (S 0).σ.next π0)
  {listed : Array Bool} {a : Act} {π : Pl} {w : World} {m : Nat}

theorem HpI.rel (hh : HpI ops S regs0 π0 w0 listed π w m) (ht : TmI n0 ops S listed a π) {l : List (Nat × Option FV)} (hl : ∀ t y, look l t = some (some y) → FVR π y (a.tmps.getD t undef)) :
    Rel ⟨n0, l, regs0⟩ (S m).σ π a w :=
  ⟨hl, ht.sz, ht.df, hh.hr, hh.dom, hh.md m (Nat.le_refl _), hh.rg, hh.rg'⟩

include hk in
/-- what is listed beside: no change of the heap -/
theorem HpI.list (hh : HpI ops S regs0 π0 w0 listed π w m) (ht : listed.size = ops.size) {p : Nat} {o : Oper} {i : Nat} (hp : (ordD ops.toList)[p]? = some (o, i)) (hne : (S p).kd ≠ .eff) :
    HpI ops S regs0 π0 w0 (listed.setIfInBounds i true) π w m := by
  have hi : i < listed.size := by rw [ht]; exact (Array.getElem?_eq_some_iff.1 (ordD_of hp)).1
  refine ⟨hh.le, fun q o1 j hq hj he => (lst_set hi).2 (.inr (hh.effs q o1 j hq hj he)), fun o1 j hj => ?_, hh.st, hh.hr, hh.dom, hh.rg, hh.rg', hh.md, hh.mo, fun q o1 j hq hj he hn => hh.un q o1 j hq hj he fun h => hn ((lst_set hi).2 (.inr h))⟩
  obtain ⟨h1, h2⟩ := hh.here o1 j hj
  refine ⟨h1, fun h => ?_⟩
  rcases (lst_set hi).1 h with h | h
  · subst h
    have := ordD_inj hj hp; subst this
    exact hne h1
  · exact h2 h

include hB in
theorem HpI.same (hh : HpI ops S regs0 π0 w0 listed π w m) {π' : Pl} {w' : World} {l : List (Nat × Option FV)} {a' : Act} (hr : Rel ⟨n0, l, regs0⟩ (S m).σ π' a' w')
    (hs : Step (cm regs0 (S m).σ.mem) (S m).σ.next π w (cm regs0 (S m).σ.mem) (S m).σ.next π' w') : HpI ops S regs0 π0 w0 listed π' w' m := by
  refine ⟨hh.le, hh.effs, hh.here, hh.st.trans hB hs, hr.hr, hr.dom, hr.rg, hr.rg', hh.md, hh.mo, fun p o i hp ho he hn => ?_⟩
  obtain ⟨h1, h2, h3⟩ := hh.un p o i hp ho he hn
  exact ⟨by rw [hs.old _ h3]; exact h1, h2, h3⟩

theorem cm_same {regs : List (Nat × List Value)} {mem mem' : Nat → Option Blk} {π : Pl} {nx : Nat} (hd : ∀ b, nx ≤ b → π (.hp b) = none) (h : ∀ b, b < nx → mem' b = mem b) :
    ∀ k e, π k = some e → cm regs mem' k = cm regs mem k := by
  intro k e hk
  cases k with
  | rg t => rfl
  | hp b =>
    have hlt : b < nx := by
      rcases Nat.lt_or_ge b nx with h' | h'
      · exact h'
      · rw [hd b h'] at hk; cases hk
    exact h b hlt

include hk hF hP hB in
theorem HpI.eff (hh : HpI ops S regs0 π0 w0 listed π w m) (ht : TmI n0 ops S listed a π) {o : Oper} {i : Nat} (hp : (ordD ops.toList)[m]? = some (o, i)) {π' : Pl} {w' : World} {l : List (Nat × Option FV)} {a' : Act}
    (hr : Rel ⟨n0, l, regs0⟩ (S (m + 1)).σ π' a' w') (hs : Step (cm regs0 (S m).σ.mem) (S m).σ.next π w (cm regs0 (S (m + 1)).σ.mem) (S (m + 1)).σ.next π' w') :
    ∃ m', HpI ops S regs0 π0 w0 (listed.setIfInBounds i true) π' w' m' := by
  obtain ⟨k1, k2, k3⟩ := drawOk_parts hk
  have hi : i < listed.size := by rw [ht.ls]; exact (Array.getElem?_eq_some_iff.1 (ordD_of hp)).1
  have hml : m < (ordD ops.toList).length := (List.getElem?_eq_some_iff.1 hp).1
  obtain ⟨hme, hmu⟩ := hh.here o i hp
  obtain ⟨m', g1, g2, g3, g4⟩ := nextEff (S := S) (ordD ops.toList).length _ (m + 1) rfl (by omega)
  have fl : ∀ q q', m + 1 ≤ q → q ≤ q' → q' ≤ m' → Flat (S q).σ (S q').σ := fun q q' h1 h2 h3 => flat hF q' h2 (by omega) fun r h4 h5 => g3 r (by omega) (by omega)
  have fm := fl (m + 1) m' (Nat.le_refl _) g1 (Nat.le_refl _)
  refine ⟨m', g2, ?_, ?_, (hh.st.trans hB hs).trans hB (Step.grow fm.nx fun b hb => fm.eq b hb), hr.hr.congr (cm_same hr.dom fm.eq), fun b hb => hr.dom b (Nat.le_trans fm.nx hb), hr.rg, hr.rg', ?_, ?_, ?_⟩
  · intro q o1 j hq hj he
    rcases Nat.lt_trichotomy q m with h | h | h
    · exact (lst_set hi).2 (.inr (hh.effs q o1 j h hj he))
    · subst h; rw [hp] at hj; cases hj; exact (lst_set hi).2 (.inl rfl)
    · exact absurd he (g3 q h hq)
  · intro o1 j hj
    have hl : m' < (ordD ops.toList).length := (List.getElem?_eq_some_iff.1 hj).1
    have he := g4 hl
    refine ⟨he, fun h => ?_⟩
    have hpr := hP m m' (by omega) o i o1 j hp hj
    unfold PairOk at hpr
    rw [hme, he] at hpr
    rcases (lst_set hi).1 h with h | h
    · subst h; have := ordD_inj hj hp; omega
    · exact hmu (ahead_closed k2 (D := Lst listed) ht.cl j i hpr fun o' ho' => ht.cl j o' h ho')
  · intro q hq
    rcases Nat.lt_or_ge m q with h | h
    · exact (fl (m + 1) q (Nat.le_refl _) h hq).md hr.mdom
    · exact hh.md q h
  · intro q q' hqq hq'
    rcases Nat.lt_or_ge m q with h | h
    · exact (fl q q' h hqq hq').nx
    · rcases Nat.lt_or_ge m q' with h' | h'
      · exact Nat.le_trans (hh.mo q m h (Nat.le_refl _)) (Nat.le_trans hs.nxt (fl (m + 1) q' (Nat.le_refl _) h' hq').nx)
      · exact hh.mo q q' hqq h'
  · intro p o1 j hpm hj he hn
    rcases Nat.lt_trichotomy p m with h | h | h
    · obtain ⟨h1, h2, h3⟩ := hh.un p o1 j h hj he fun hl => hn ((lst_set hi).2 (.inr hl))
      have h4 : (S p).σ.next < (S (m + 1)).σ.next := Nat.lt_of_lt_of_le h3 hs.nxt
      exact ⟨by rw [hs.old _ h3]; exact h1, by rw [fm.eq _ h4, show (S (m + 1)).σ.mem (S p).σ.next = (S m).σ.mem (S p).σ.next from hs.lframe _ h3 h1]; exact h2, Nat.lt_of_lt_of_le h4 fm.nx⟩
    · subst h; rw [hme] at he; cases he
    · have f1 := flat1 hF hj (by rw [he]; nofun)
      have f2 := f1.2 he
      have h5 : (S p).σ.next < (S (p + 1)).σ.next := by omega
      have h6 := fl (p + 1) m' (by omega) (by omega) (Nat.le_refl _)
      exact ⟨hr.dom _ (fl (m + 1) p (Nat.le_refl _) h (by omega)).nx, h6.eq _ h5, Nat.lt_of_lt_of_le h5 h6.nx⟩

include hk hF in
theorem HpI.first {fr : Fr} (hr : Rel fr (S 0).σ π0 a w) (hg : fr.regs = regs0) (hl : ∀ i, ¬ Lst listed i) (hs : Step (cm regs0 (S 0).σ.mem) (S 0).σ.next π0 w0 (cm regs0 (S 0).σ.mem) (S 0).σ.next π0 w) :
    ∃ m', HpI ops S regs0 π0 w0 listed π0 w m' := by
  subst hg
  obtain ⟨m', g1, g2, g3, g4⟩ := nextEff (S := S) (ordD ops.toList).length _ 0 rfl (by omega)
  have fl : ∀ q q', q ≤ q' → q' ≤ m' → Flat (S q).σ (S q').σ := fun q q' h2 h3 => flat hF q' h2 (by omega) fun r h4 h5 => g3 r (by omega) (by omega)
  have fm := fl 0 m' (Nat.zero_le _) (Nat.le_refl _)
  refine ⟨m', g2, fun q o1 j hq hj he => absurd he (g3 q (Nat.zero_le _) hq), fun o1 j hj => ⟨g4 (List.getElem?_eq_some_iff.1 hj).1, hl j⟩, hs.trans hr.begin (Step.grow fm.nx fun b hb => fm.eq b hb), hr.hr.congr (cm_same hr.dom fm.eq),
    fun b hb => hr.dom b (Nat.le_trans fm.nx hb), hr.rg, hr.rg', fun q hq => (fl 0 q (Nat.zero_le _) hq).md hr.mdom, fun q q' h1 h2 => (fl q q' h1 h2).nx, ?_⟩
  intro p o1 j hpm hj he hn
  have f1 := flat1 hF hj (by rw [he]; nofun)
  have f2 := f1.2 he
  have h5 : (S p).σ.next < (S (p + 1)).σ.next := by omega
  have h6 := fl (p + 1) m' (by omega) (Nat.le_refl _)
  exact ⟨hr.dom _ (fl 0 p (Nat.zero_le _) (by omega)).nx, h6.eq _ h5, Nat.lt_of_lt_of_le h5 h6.nx⟩

theorem mk_value {g : Nat → Value} (hg : MkShape g) {π π' : Pl} {K K' : Nat} {v : Value} (h : FVR π' (.val (g K')) v) : FVR (upd π (.hp K) (π' (.hp K'))) (.val (g K)) v := by
  cases h with
  | val _ _ h =>
    refine .val _ _ ?_
    rcases hg with rfl | ⟨size, n, c, rfl⟩
    · cases h with
      | ptr _ _ e he => exact .ptr K 0 e (by rw [upd_same]; exact he)
    · cases h with
      | slc _ _ _ _ _ o' c' e he h1 h2 h3 h4 h5 => exact .slc K 0 n c size o' c' e (by rw [upd_same]; exact he) h1 h2 h3 h4 h5

include hk hF hB in
theorem HpI.made (hh : HpI ops S regs0 π0 w0 listed π w m) (ls : listed.size = ops.size) {p : Nat} {o : Oper} {i : Nat} (hp : (ordD ops.toList)[p]? = some (o, i)) (hpm : p < m) (hkd : (S p).kd = .mk) (hu : ¬ Lst listed i) {blk : Blk} (hblk : (S (p + 1)).σ = (S p).σ.push blk)
    {π' : Pl} {w' : World} {l : List (Nat × Option FV)} (hhas : ∀ c ∈ blk.cells, Has π c)
    (hr : Rel ⟨n0, l, regs0⟩ ((S m).σ.push blk) π' a w') (hs : Step (cm regs0 (S m).σ.mem) (S m).σ.next π w (cm regs0 ((S m).σ.push blk).mem) ((S m).σ.push blk).next π' w') (hm : More' π π') :
    HpI ops S regs0 π0 w0 (listed.setIfInBounds i true) (upd π (.hp (S p).σ.next) (π' (.hp (S m).σ.next))) w' m ∧ More' π (upd π (.hp (S p).σ.next) (π' (.hp (S m).σ.next))) := by
  obtain ⟨u1, u2, u3⟩ := hh.un p o i hpm hp hkd hu
  have hi : i < listed.size := by rw [ls]; exact (Array.getElem?_eq_some_iff.1 (ordD_of hp)).1
  have hmore : More' π (upd π (.hp (S p).σ.next) (π' (.hp (S m).σ.next))) := fun k e hk => by
    rw [upd_ne]; exact hk
    intro he; rw [he, u1] at hk; cases hk
  have hold : ∀ k, k ≠ .hp (S m).σ.next → π' k = π k := by
    intro k hk
    cases k with
    | hp b =>
      rcases Nat.lt_trichotomy b (S m).σ.next with h | h | h
      · exact hs.old b h
      · exact absurd (by rw [h]) hk
      · rw [hr.dom b (by simp only [LH.push]; omega), hh.dom b (Nat.le_of_lt h)]
    | rg t =>
      cases h1 : π (.rg t) with
      | some e => exact hm _ _ h1
      | none =>
        cases h2 : π' (.rg t) with
        | none => rfl
        | some e =>
          obtain ⟨cs, hcs⟩ := hr.rg t e h2
          obtain ⟨e2, he2⟩ := hh.rg' t cs hcs
          rw [he2] at h1; cases h1
  have s1 := hh.st.trans hB hs
  have h0p : (S 0).σ.next ≤ (S p).σ.next := hh.mo 0 p (Nat.zero_le _) (by omega)
  have h0m : (S 0).σ.next ≤ (S m).σ.next := hh.mo 0 m (Nat.zero_le _) (Nat.le_refl _)
  refine ⟨⟨hh.le, fun q o1 j hq hj he => (lst_set hi).2 (.inr (hh.effs q o1 j hq hj he)), (hh.list hk ls hp (by rw [hkd]; nofun)).here, ?_, ?_, ?_, ?_, ?_, hh.md, hh.mo, ?_⟩, hmore⟩
  · refine ⟨s1.os, s1.tape, s1.output, s1.size, hh.st.nxt, fun b hb => ?_, s1.frame, hh.st.lframe, hh.st.wr, fun k e hke => ?_⟩
    · rw [upd_ne _ _ (by simp; omega)]; exact hh.st.old b hb
    · by_cases he : k = .hp (S p).σ.next
      · subst he
        rw [upd_same] at hke
        rcases s1.new _ e hke with h | h | h
        · rw [hB.dom _ h0m] at h; cases h
        · exact .inr (.inl h)
        · exact .inr (.inr h)
      · rw [upd_ne _ _ he] at hke; exact s1.new k e (hm k e hke)
  · refine HR.rename hh.hr (by rw [← cm_push]; exact hr.hr) hm hold u1 (by omega) ?_ (hh.dom _ (Nat.le_refl _)) hhas
    show (S m).σ.mem (S p).σ.next = some blk
    rw [u2, hblk]; simp [LH.push]
  · intro b hb; rw [upd_ne _ _ (by simp; omega)]; exact hh.dom b hb
  · intro t e ht; rw [upd_ne _ _ (by simp)] at ht; exact hh.rg t e ht
  · intro t cs ht; rw [upd_ne _ _ (by simp)]; exact hh.rg' t cs ht
  · intro p2 o2 j hp2 hj he hn
    obtain ⟨h1, h2, h3⟩ := hh.un p2 o2 j hp2 hj he fun hl => hn ((lst_set hi).2 (.inr hl))
    have hne : p2 ≠ p := fun h => by
      subst h; rw [hp] at hj; cases hj
      exact hn ((lst_set hi).2 (.inl rfl))
    have hkey : (S p2).σ.next ≠ (S p).σ.next := by
      have f1 := (flat1 hF hp (by rw [hkd]; nofun)).2 hkd
      have f2 := (flat1 hF hj (by rw [he]; nofun)).2 he
      rcases Nat.lt_or_ge p p2 with h | h
      · have := hh.mo (p + 1) p2 h (by omega); omega
      · have := hh.mo (p2 + 1) p (by omega) (by omega); omega
    exact ⟨by rw [upd_ne _ _ (by simpa using hkey)]; exact h1, h2, h3⟩

include hF hP hk in
/-- a load that is not ordered against the changes gives what the text says -/
theorem HpI.load (hh : HpI ops S regs0 π0 w0 listed π w m) (ht : TmI n0 ops S listed a π) {p : Nat} {o : Oper} {i : Nat} (hp : (ordD ops.toList)[p]? = some (o, i)) (hu : ¬ Lst listed i) (hr : ∀ e ∈ o.after, Region.binds .any e = true → Lst listed e.on)
    {ptr : Value} {size : Nat} {ag : Bool} {v : Value} (hkd : (S p).kd = .ld ptr size ag v) (hld : pLd (S p).σ size ag ptr = some v) : pLd (S m).σ size ag ptr = some v := by
  obtain ⟨k1, k2, k3⟩ := drawOk_parts hk
  have hoi := ordD_of hp
  have hpl : p < (ordD ops.toList).length := (List.getElem?_eq_some_iff.1 hp).1
  have hle := hh.le
  have down : ∀ j, ahead (befs ops.toList []) j i = true → Lst listed j := fun j h => ahead_closed k2 (D := Lst listed) ht.cl i j h fun o' ho' => by rw [hoi] at ho'; cases ho'; exact hr
  rcases Nat.lt_or_ge m p with hmp | hmp
  · have hml : m < (ordD ops.toList).length := by omega
    obtain ⟨o1, j, hj⟩ : ∃ o1 j, (ordD ops.toList)[m]? = some (o1, j) := ⟨_, _, List.getElem?_eq_getElem hml⟩
    obtain ⟨h1, h2⟩ := hh.here o1 j hj
    have hpr := hP m p hmp o1 j o i hj hp
    unfold PairOk at hpr
    rw [h1, hkd] at hpr
    rcases hpr with h | h
    · exact absurd (down j h) h2
    · exact h
  · rcases lastEff (S := S) p m hmp with h | ⟨e, h1, h2, h3, h4⟩
    · exact pLd_flat (flat hF m hmp hle h) (hh.md p hmp) hld
    · have hpe : p < e := by
        rcases Nat.eq_or_lt_of_le h1 with h | h
        · subst h; rw [hkd] at h3; cases h3
        · exact h
      obtain ⟨o1, j, hj⟩ : ∃ o1 j, (ordD ops.toList)[e]? = some (o1, j) := ⟨_, _, List.getElem?_eq_getElem (by omega)⟩
      have hpr := hP p e hpe o i o1 j hp hj
      unfold PairOk at hpr
      rw [h3, hkd] at hpr
      rcases hpr with h | h
      · exact absurd (ahead_closed k2 (D := Lst listed) ht.cl j i h fun o' ho' => ht.cl j o' (hh.effs e o1 j h2 hj h3) ho') hu
      · exact pLd_flat (flat hF m (by omega) hle fun r h5 h6 => h4 r (by omega) h6) (hh.md (e + 1) (by omega)) h
end
end Go.Lg
