/- A region that draws its order, all of it; every call. -/
import Derived.Test.YtikafgoibpeagaaLgY
namespace Go.Lg
set_option linter.unusedVariables false
set_option linter.unusedSimpArgs false
set_option linter.unusedSectionVars false

theorem count_set_true {l : List Bool} {i : Nat} (h : l[i]? = some false) : (l.set i true).count false + 1 = l.count false := by
  induction l generalizing i with
  | nil => simp at h
  | cons x l ih =>
    cases i with
    | zero => simp at h; subst h; simp
    | succ i =>
      have := ih (i := i) (by simpa using h)
      simp only [List.set_cons_succ, List.count_cons]
      omega

section
variable {P : Program} {E : Env} (hE : EnvOk P E) (hq : ∀ T q ks, E.eqT T = q :: ks → eqTOk P T (q :: ks) = true) {call : Cal} (hc : CallOk P call) {f : Nat} {ops : Array Oper} {n0 : Nat} {regs0 : List (Nat × List Value)} {S : Nat → St}
  (hk : drawOk ops.toList = true)
  (hF : ∀ (q : Nat) o i, (ordD ops.toList)[q]? = some (o, i) → Fact E call f ops n0 regs0 o (S q) (S (q + 1)))
  (hP : ∀ (q q' : Nat), q < q' → ∀ o i o' i', (ordD ops.toList)[q]? = some (o, i) → (ordD ops.toList)[q']? = some (o', i') → PairOk (befs ops.toList []) i (S q).kd (S q).σ i' (S q').kd (S (q' + 1)).σ)
  {π0 : Pl} {w0 : World} (hB : Begin (cm regs0 (S 0).σ.mem) (S 0).σ.next π0) {Q : Exit → Act → World → Prop}
  (hQ : ∀ (l : List (Nat × Option FV)) (π : Pl) (a : Act) (w : World), (∀ t y, (S (ordD ops.toList).length).T t = some (some y) → FVR π y (a.tmps.getD t undef)) →
    (∀ l : List (Nat × Option FV), (∀ t y, look l t = some (some y) → FVR π y (a.tmps.getD t undef)) → Rel ⟨n0, l, regs0⟩ (S (ordD ops.toList).length).σ π a w) →
    Step (cm regs0 (S 0).σ.mem) (S 0).σ.next π0 w0 (cm regs0 (S (ordD ops.toList).length).σ.mem) (S (ordD ops.toList).length).σ.next π w → Q .normal a w)
include hE hq hc hk hF hP hB hQ

theorem draw_end {listed : Array Bool} {a : Act} {π : Pl} {w : World} {m : Nat} (ht : TmI n0 ops S listed a π) (hh : HpI ops S regs0 π0 w0 listed π w m)
    (hall : ∀ i, i < ops.size → Lst listed i) : Q .normal a w := by
  have hm : m = (ordD ops.toList).length := by
    rcases Nat.eq_or_lt_of_le hh.le with h | h
    · exact h
    · obtain ⟨o, i, ho⟩ : ∃ o i, (ordD ops.toList)[m]? = some (o, i) := ⟨_, _, List.getElem?_eq_getElem h⟩
      exact absurd (hall i (Array.getElem?_eq_some_iff.1 (ordD_of ho)).1) (hh.here o i ho).2
  subst hm
  refine hQ [] π a w (fun t y hy => ?_) (fun l hl => hh.rel ht hl) hh.st
  rcases Tchar hF _ (Nat.le_refl _) hy with ⟨q, o, i, h1, h2, h3, h4⟩ | ⟨h1, h2⟩
  · exact ht.tmW q o i t y h2 (hall i (Array.getElem?_eq_some_iff.1 (ordD_of h2)).1) h3 h4
  · exact ht.tmI t y (fun q o i ho _ => h1 q o i (List.getElem?_eq_some_iff.1 ho).1 ho) h2

theorem draw_any : ∀ (fuel : Nat) (listed : Array Bool) (a : Act) (π : Pl) (w : World) (m : Nat), listed.toList.count false = fuel → TmI n0 ops S listed a π → HpI ops S regs0 π0 w0 listed π w m →
    wpAny P .any ops Q fuel listed a w
  | 0, listed, a, π, w, m, hcn, ht, hh => by
    have hall : ∀ i, i < ops.size → Lst listed i := by
      intro i hi
      have hi' : i < listed.size := by rw [ht.ls]; exact hi
      have hno : false ∉ listed.toList := List.count_eq_zero.1 hcn
      unfold Lst
      rw [Array.getD_eq_getD_getElem?, Array.getElem?_eq_getElem hi']
      cases hx : listed[i] with
      | true => rfl
      | false => exact absurd (by rw [← hx]; simp) hno
    refine ⟨?_, draw_end hE hq hc hk hF hP hB hQ ht hh hall⟩
    cases hr : Region.ready .any ops listed with
    | nil => rfl
    | cons j js =>
      have hj : j ∈ Region.ready .any ops listed := by rw [hr]; exact .head _
      obtain ⟨h1, o, h2, _⟩ := mem_ready.1 hj
      exact absurd (hall j (Array.getElem?_eq_some_iff.1 h2).1) (lst_or h1)
  | fuel + 1, listed, a, π, w, m, hcn, ht, hh => by
    obtain ⟨k1, k2, k3⟩ := drawOk_parts hk
    have bool : ∀ i, i < ops.size → listed.getD i true = false ∨ Lst listed i := by
      intro i hi
      have hi' : i < listed.size := by rw [ht.ls]; exact hi
      unfold Lst
      rw [Array.getD_eq_getD_getElem?, Array.getD_eq_getD_getElem?, Array.getElem?_eq_getElem hi']
      cases listed[i] <;> simp
    refine ⟨fun hr => ?_, fun i hi => ?_⟩
    · have hpos : ∀ (p : Nat) o i, (ordD ops.toList)[p]? = some (o, i) → Lst listed i := by
        intro p
        induction p using Nat.strongRecOn with
        | _ p ih =>
          intro o i hp
          have hoi := ordD_of hp
          rcases bool i (Array.getElem?_eq_some_iff.1 hoi).1 with h | h
          · have : i ∈ Region.ready .any ops listed := mem_ready.2 ⟨h, o, hoi, fun e he hb => by
              rcases ordOk_spec k3 hp e he hb with h2 | ⟨q, h2, o', h3⟩
              · cases h2
              · exact ih q h2 o' e.on h3⟩
            rw [hr] at this; cases this
          · exact h
      refine draw_end hE hq hc hk hF hP hB hQ ht hh fun i hi => ?_
      obtain ⟨p, hp⟩ := ordD_to (Array.getElem?_eq_getElem hi)
      exact hpos p _ i hp
    · obtain ⟨h0, o, hoi, hedge⟩ := mem_ready.1 hi
      have hu := lst_or h0
      obtain ⟨p, hp⟩ := ordD_to hoi
      have hii : i < listed.size := by rw [ht.ls]; exact (Array.getElem?_eq_some_iff.1 hoi).1
      have hcn' : (listed.setIfInBounds i true).toList.count false = fuel := by
        rw [Array.toList_setIfInBounds]
        have : listed.toList[i]? = some false := by
          rw [Array.getD_eq_getD_getElem?, Array.getElem?_eq_getElem hii] at h0
          simp at h0; simp [hii, h0]
        have := count_set_true this
        omega
      have hf := hF p o i hp
      have hlook := ht.looked hk hF hp hu hedge
      have hgd := hf.gd π a hlook
      unfold wpOp
      rw [hoi]
      simp only [hgd]
      cases hrun : (S p).run with
      | false =>
        rw [if_neg Bool.false_ne_true]
        obtain ⟨hx, _, hkd⟩ := hf.skip hrun
        refine draw_any fuel _ _ π w m hcn' (ht.put hk (fun _ _ h => h) hp hu hedge hf.dst fun y hy => ?_) (hh.list hk ht.ls hp (by rw [hkd]; nofun))
        rw [hx] at hy; cases hy; exact .und
      | true =>
        rw [if_pos rfl]
        left
        obtain ⟨l, hl, hop⟩ := hf.run hrun
        have hrel : Rel (Fr.only ⟨n0, l, regs0⟩ (o.looksAt ops)) (S m).σ π a w := hh.rel ht fun t y hty => by
          obtain ⟨h1, h2⟩ := look_filter _ _ _ _ hty
          exact hlook t h1 y (by rw [← hl t]; exact h2)
        have quiet : (∀ (β : Type) (k' : Option FV → List (Nat × List Value) → LH → Option β), opC E call f o (Fr.only ⟨n0, l, regs0⟩ (o.looksAt ops)) (S m).σ k' = k' (S p).x regs0 (S m).σ) → (S p).kd ≠ .eff →
            o.wp P a w (wpAny P .any ops Q fuel (listed.setIfInBounds i true)) Q := by
          intro hall hne
          refine op_sound hE hq hc hrel (k := fun x regs σ => some (x, regs, σ)) (res := ((S p).x, regs0, (S m).σ)) (Q := Q) ?_ (hall _ _)
          intro x regs σ' π' v w' hkk hx hkept
          cases hkk
          exact draw_any fuel _ _ π' w' m hcn' (ht.put hk hkept.2.2 hp hu hedge hf.dst hx) ((hh.same hB hkept.1 hkept.2.1).list hk ht.ls hp hne)
        cases hkd : (S p).kd with
        | plain => exact quiet ((hop.plain hkd).2 _) (by rw [hkd]; nofun)
        | ld ptr size ag v =>
          obtain ⟨_, h2, h3⟩ := hop.ld ptr size ag v hkd
          exact quiet (h3 _ (hh.load hk hF hP ht hp hu hedge hkd h2)) (by rw [hkd]; nofun)
        | mk =>
          obtain ⟨blk, g, g1, g2, g3, g4, g5, g6⟩ := hop.mkk hkd
          have hpm : p < m := by
            rcases Nat.lt_trichotomy p m with h | h | h
            · exact h
            · subst h; have := (hh.here o i hp).1; rw [hkd] at this; cases this
            · have hpl : p < (ordD ops.toList).length := (List.getElem?_eq_some_iff.1 hp).1
              obtain ⟨o1, j, hj⟩ : ∃ o1 j, (ordD ops.toList)[m]? = some (o1, j) := ⟨_, _, List.getElem?_eq_getElem (by omega)⟩
              obtain ⟨h1, h2⟩ := hh.here o1 j hj
              have hpr := hP m p h o1 j o i hj hp
              unfold PairOk at hpr
              rw [h1, hkd] at hpr
              exact absurd (ahead_closed k2 (D := Lst listed) ht.cl i j hpr fun o' ho' => by rw [hoi] at ho'; cases ho'; exact hedge) h2
          have hhas : ∀ c ∈ blk.cells, Has π c := g6 π fun t y hty => ⟨_, hrel.tm t y hty⟩
          refine op_sound hE hq hc hrel (k := fun x regs σ => some (x, regs, σ)) (res := (some (.val (g (S m).σ.next)), regs0, (S m).σ.push blk)) (Q := Q) ?_ (g5 _ _ _)
          intro x regs σ' π' v w' hkk hx hkept
          cases hkk
          obtain ⟨h1, h2⟩ := hh.made hk hF hB ht.ls hp hpm hkd hu g4 hhas hkept.1 hkept.2.1 hkept.2.2
          refine draw_any fuel _ _ _ w' m hcn' (ht.put hk h2 hp hu hedge hf.dst fun y hy => ?_) h1
          rw [g2] at hy; cases hy
          exact mk_value g1 (hx _ rfl)
        | eff =>
          have hpm : p = m := by
            rcases Nat.lt_trichotomy p m with h | h | h
            · exact absurd (hh.effs p o i h hp hkd) hu
            · exact h
            · have hpl : p < (ordD ops.toList).length := (List.getElem?_eq_some_iff.1 hp).1
              obtain ⟨o1, j, hj⟩ : ∃ o1 j, (ordD ops.toList)[m]? = some (o1, j) := ⟨_, _, List.getElem?_eq_getElem (by omega)⟩
              obtain ⟨h1, h2⟩ := hh.here o1 j hj
              have hpr := hP m p h o1 j o i hj hp
              unfold PairOk at hpr
              rw [h1, hkd] at hpr
              exact absurd (ahead_closed k2 (D := Lst listed) ht.cl i j hpr fun o' ho' => by rw [hoi] at ho'; cases ho'; exact hedge) h2
          subst hpm
          refine op_sound hE hq hc hrel (k := fun x regs σ => some (x, regs, σ)) (res := ((S p).x, regs0, (S (p + 1)).σ)) (Q := Q) ?_ (hop.all _ _)
          intro x regs σ' π' v w' hkk hx hkept
          cases hkk
          obtain ⟨m', h1⟩ := hh.eff hk hF hP hB ht hp hkept.1 hkept.2.1
          exact draw_any fuel _ _ π' w' m' hcn' (ht.put hk hkept.2.2 hp hu hedge hf.dst hx) h1
end

theorem drawOk_all {P : Program} {E : Env} (hE : EnvOk P E) (hq : ∀ T q ks, E.eqT T = q :: ks → eqTOk P T (q :: ks) = true) (call : Cal) (hc : CallOk P call) : DrawOk P E call := by
  intro f α res ops k Q fr σ π a w id hr hk h hQ
  obtain ⟨S, s1, s2, s3, s4, _, l, s6, s7⟩ := opsD_text (L := ordD ops.toList) hE (ordD ops.toList) 0 rfl [] fr σ rfl rfl h
  rw [Nat.max_eq_right (Nat.zero_le _)] at s6 s7
  subst s2
  refine wp_region_any hE.mixed ?_
  have hl : ∀ i, ¬ Lst (Array.replicate ops.size false) i := by
    intro i h
    unfold Lst at h
    rw [Array.getD_eq_getD_getElem?] at h
    by_cases hi : i < ops.size <;> simp [hi] at h
  have hrd : Rel fr (S 0).σ π a { w with drawn := w.drawn + 1 } := ⟨hr.tm, hr.sz, hr.df, ⟨hr.hr.cell, hr.hr.ones, hr.hr.own, hr.hr.inj, hr.hr.lt⟩, hr.dom, hr.mdom, hr.rg, hr.rg'⟩
  have hs0 : Step (cm fr.regs (S 0).σ.mem) (S 0).σ.next π w (cm fr.regs (S 0).σ.mem) (S 0).σ.next π { w with drawn := w.drawn + 1 } :=
    ⟨rfl, rfl, rfl, Nat.le_refl _, Nat.le_refl _, fun _ _ => rfl, fun _ _ _ => rfl, fun _ _ _ => rfl, fun b blk' _ hb => ⟨blk', hb, rfl, fun _ => rfl⟩, fun k e hk => .inl hk⟩
  obtain ⟨m, hh⟩ := HpI.first (regs0 := fr.regs) hk (fun q o i hq => s3 q (Nat.zero_le _) o i hq) hrd rfl hl hs0
  refine draw_any hE hq hc hk (fun q o i hq => s3 q (Nat.zero_le _) o i hq) (fun q q' hqq o i o' i' h1 h2 => s4 q q' (Nat.zero_le _) hqq o i o' i' h1 h2) hr.begin ?_ ops.size _ a π _ m (by simp) ?_ hh
  · intro _ π' a' w' htm hrel hst
    exact hQ ⟨fr.n, l, fr.regs⟩ _ π' a' w' s7 ⟨hrel l fun t y hty => htm t y (by rw [← s6 t]; exact hty), rfl, hst⟩
  · refine ⟨hr.sz, hr.df, fun q o i t y _ hli => absurd hli (hl i), fun t y _ h0 => hr.tm t y (by rw [← s1 t]; exact h0), fun i o hli => absurd hli (hl i), by simp⟩

/-- every call, at every depth -/
theorem calls_sound {P : Program} {E : Env} {N : Nat} (hE : EnvOk P E) (hq : ∀ T q ks, E.eqT T = q :: ks → eqTOk P T (q :: ks) = true) (n : Nat) : CallOk P (evFn E N n) :=
  callOk hE hq (fun call hc => drawOk_all hE hq call hc) n
end Go.Lg
