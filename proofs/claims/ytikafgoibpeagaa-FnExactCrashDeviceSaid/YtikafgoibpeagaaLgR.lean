/- Code: its logical run is alike to the model's. -/
import Derived.Test.YtikafgoibpeagaaLgQ
import Derived.LoopN
import Derived.Orders
namespace Go.Lg
set_option linter.unusedVariables false
set_option linter.unusedSimpArgs false
set_option linter.unusedSectionVars false

theorem getD_set_same {xs : Array Value} {d : Nat} (v : Value) (h : d < xs.size) : (xs.setIfInBounds d v).getD d undef = v := by
  simp [Array.getD_eq_getD_getElem?, h]
theorem getD_set_ne' {xs : Array Value} {d t : Nat} (v : Value) (h : d ≠ t) : (xs.setIfInBounds d v).getD t undef = xs.getD t undef := by
  simp [Array.getD_eq_getD_getElem?, Array.getElem?_setIfInBounds_ne h]

section
variable {fr : Fr} {σ : LH} {π : Pl} {a : Act} {w : World} {regs : List (Nat × List Value)}

theorem Rel.put (h : Rel ⟨fr.n, fr.tmps, regs⟩ σ π a w) {o : Oper} (hd : dstOk o fr.n = true) {x : Option FV} {v : Value} (hx : ∀ y, x = some y → FVR π y v) :
    Rel (fr.put regs o.dst x) σ π (a.put o.dst v) w := by
  unfold dstOk at hd
  cases ho : o.dst with
  | none => exact h
  | some d =>
    rw [ho] at hd
    have hlt : d < a.tmps.size := by rw [h.sz]; exact Nat.blt_eq.mp hd
    refine ⟨fun t y ht => ?_, by show (a.tmps.setIfInBounds d v).size = _; rw [Array.size_setIfInBounds]; exact h.sz, h.df, h.hr, h.dom, h.mdom, h.rg, h.rg'⟩
    show FVR π y ((a.tmps.setIfInBounds d v).getD t undef)
    by_cases he : d = t
    · subst he
      rw [getD_set_same v hlt]
      rw [show look (fr.put regs (some d) x).tmps d = some x from look_cons_same _ _ _] at ht
      cases ht; exact hx y rfl
    · rw [getD_set_ne' v he]
      rw [show look (fr.put regs (some d) x).tmps t = look fr.tmps t from look_cons_ne _ _ he] at ht
      exact h.tm t y ht

/-- two frames that say the same -/
theorem Rel.same (h : Rel fr σ π a w) {l : List (Nat × Option FV)} (hl : ∀ t x, look l t = some (some x) → look fr.tmps t = some (some x)) : Rel ⟨fr.n, l, fr.regs⟩ σ π a w :=
  ⟨fun t x ht => h.tm t x (hl t x ht), h.sz, h.df, h.hr, h.dom, h.mdom, h.rg, h.rg'⟩

theorem look_again {l : List (Nat × Option FV)} {t : Nat} {y : Option FV} (h : look l t = some y) (u : Nat) (x : FV) (hx : look ((t, y) :: l) u = some (some x)) : look l u = some (some x) := by
  by_cases he : t = u
  · subst he; rw [look_cons_same] at hx; rw [h]; exact hx
  · rw [look_cons_ne _ _ he] at hx; exact hx

theorem grd_sound {α : Type} {ops : Array Oper} {o : Oper} {run skip : Fr → Option α} {res : α} (hr : Rel fr σ π a w) (h : grd ops.toList o fr run skip = some res) :
    (Region.wanted o (yielded ops a.tmps) = true ∧ ∃ l, run ⟨fr.n, l, fr.regs⟩ = some res ∧ Rel ⟨fr.n, l, fr.regs⟩ σ π a w) ∨
    (Region.wanted o (yielded ops a.tmps) = false ∧ ∃ l, skip ⟨fr.n, l, fr.regs⟩ = some res ∧ Rel ⟨fr.n, l, fr.regs⟩ σ π a w) := by
  unfold grd at h
  unfold Region.wanted
  split at h
  · rename_i hg; exact .inl ⟨by simp [hg], fr.tmps, h, hr⟩
  · rename_i j want hg
    simp only [hg]
    split at h
    · cases h
    · rename_i t ht
      have ht' : (ops[j]?).bind (·.dst) = some t := by rw [← ht]; simp
      split at h
      · rename_i v hv
        obtain ⟨b, rfl, h⟩ := asB_some h
        have hf := hr.tm t _ hv
        have hb : a.tmps.getD t undef = .bool b := by
          generalize a.tmps.getD t undef = z at hf
          cases hf with | val _ _ hh => cases hh; rfl
        have hb' : a.tmps[t]? = some (.bool b) := by
          rw [Array.getD_eq_getD_getElem?] at hb
          cases hh : a.tmps[t]? with
          | none => rw [hh] at hb; cases hb
          | some z => rw [hh] at hb; simp at hb; rw [hb]
        have hy : yielded ops a.tmps j = some b := by simp [yielded, ht', hb']
        have hs : Rel ⟨fr.n, (t, some (.val (.bool b))) :: fr.tmps, fr.regs⟩ σ π a w := hr.same (look_again hv)
        rw [hy]
        cases b <;> cases want
        · exact .inl ⟨rfl, _, h, hs⟩
        · exact .inr ⟨rfl, _, h, hs⟩
        · exact .inr ⟨rfl, _, h, hs⟩
        · exact .inl ⟨rfl, _, h, hs⟩
      · rename_i hv
        have hf := hr.tm t _ hv
        have hb : a.tmps.getD t undef = undef := by
          generalize a.tmps.getD t undef = z at hf
          cases hf; rfl
        refine .inr ⟨?_, fr.tmps, h, hr⟩
        have hy : yielded ops a.tmps j = none := by
          simp only [yielded, ht', Option.bind_some]
          rw [Array.getD_eq_getD_getElem?] at hb
          cases hh : a.tmps[t]? with
          | none => rfl
          | some z => rw [hh] at hb; simp at hb; subst hb; rfl
        rw [hy]; rfl
      · cases h

/-- a run from here to there -/
abbrev Run (fr : Fr) (σ : LH) (π : Pl) (w : World) (fr' : Fr) (σ' : LH) (π' : Pl) (a' : Act) (w' : World) : Prop :=
  Rel fr' σ' π' a' w' ∧ fr'.n = fr.n ∧ Step (cm fr.regs σ.mem) σ.next π w (cm fr'.regs σ'.mem) σ'.next π' w'

theorem Fr.put_n (fr : Fr) (regs : List (Nat × List Value)) (d : Option Nat) (x : Option FV) : (fr.put regs d x).n = fr.n := by cases d <;> rfl
theorem Fr.put_regs (fr : Fr) (regs : List (Nat × List Value)) (d : Option Nat) (x : Option FV) : (fr.put regs d x).regs = regs := by cases d <;> rfl

theorem Run.trans {fr1 fr2 : Fr} {σ1 σ2 : LH} {π1 π2 : Pl} {a1 a2 : Act} {w1 w2 : World} (h : Rel fr σ π a w) (r1 : Run fr σ π w fr1 σ1 π1 a1 w1) (r2 : Run fr1 σ1 π1 w1 fr2 σ2 π2 a2 w2) :
    Run fr σ π w fr2 σ2 π2 a2 w2 := ⟨r2.1, r2.2.1.trans r1.2.1, r1.2.2.trans h.begin r2.2.2⟩
theorem Run.refl (h : Rel fr σ π a w) : Run fr σ π w fr σ π a w := ⟨h, rfl, Step.refl _ _ _ _⟩
end

section
variable {P : Program} {E : Env} (hE : EnvOk P E) (hq : ∀ T q ks, E.eqT T = q :: ks → eqTOk P T (q :: ks) = true) {call : Cal} (hc : CallOk P call) {f : Nat} {α : Type} {res : α}
include hE hq hc

theorem opsC_sound {ops : Array Oper} {k : Fr → LH → Option α} {Q : Exit → Act → World → Prop} : ∀ (r : List Oper) (i : Nat), ops.toList.drop i = r → ∀ (fr : Fr) (σ : LH) (π : Pl) (a : Act) (w : World), Rel fr σ π a w →
    opsC E call f ops.toList r fr σ k = some res →
    (∀ fr' σ' π' a' w', k fr' σ' = some res → Run fr σ π w fr' σ' π' a' w' → Q .normal a' w') → wpOps P ops Q (List.range' i (ops.size - i)) a w
  | [], i, hi, fr, σ, π, a, w, hr, h, hk => by
    have hl : ops.size - i = 0 := by
      have := congrArg List.length hi; simpa using this
    rw [hl]
    exact hk fr σ π a w h (Run.refl hr)
  | o :: r, i, hi, fr, σ, π, a, w, hr, h, hk => by
    have hlt : i < ops.size := by
      have := congrArg List.length hi; simp at this; omega
    have ho : ops[i]? = some o := by
      have := List.getElem?_drop (xs := ops.toList) (i := i) (j := 0)
      rw [hi] at this; simpa using this.symm
    have hrest : ops.toList.drop (i + 1) = r := by rw [← List.drop_drop, hi]; rfl
    rw [show ops.size - i = (ops.size - (i + 1)) + 1 by omega, List.range'_succ]
    obtain ⟨hd, h⟩ := cond_some h
    show (match ops[i]? with | none => _ | some o => _)
    rw [ho]
    simp only
    rcases grd_sound hr h with ⟨hw, l, hrun, hrel⟩ | ⟨hw, l, hskip, hrel⟩
    · rw [if_pos hw]
      refine .inl (op_sound hE hq hc hrel (k := fun x regs σ => opsC E call f ops.toList r (Fr.put ⟨fr.n, l, fr.regs⟩ regs o.dst x) σ k) (next := wpOps P ops Q (List.range' (i + 1) (ops.size - (i + 1)))) ?_ hrun)
      intro x regs σ' π' v w' hk' hx hkept
      have hrel' : Rel (Fr.put ⟨fr.n, l, fr.regs⟩ regs o.dst x) σ' π' (a.put o.dst v) w' := Rel.put (fr := ⟨fr.n, l, fr.regs⟩) hkept.1 hd hx
      refine opsC_sound r (i + 1) hrest _ _ _ _ _ hrel' hk' fun fr2 σ2 π2 a2 w2 hk2 hrun2 => hk fr2 σ2 π2 a2 w2 hk2 ?_
      refine Run.trans hr (fr1 := Fr.put ⟨fr.n, l, fr.regs⟩ regs o.dst x) ⟨hrel', by rw [Fr.put_n], ?_⟩ hrun2
      rw [Fr.put_regs]; exact hkept.2.1
    · rw [if_neg (by rw [hw]; exact Bool.false_ne_true)]
      have hrel' : Rel (Fr.put ⟨fr.n, l, fr.regs⟩ fr.regs o.dst (some .und)) σ π (a.put o.dst undef) w := Rel.put (fr := ⟨fr.n, l, fr.regs⟩) hrel hd fun y hy => by cases hy; exact .und
      refine opsC_sound r (i + 1) hrest _ _ _ _ _ hrel' hskip fun fr2 σ2 π2 a2 w2 hk2 hrun2 => hk fr2 σ2 π2 a2 w2 hk2 ?_
      refine Run.trans hr (fr1 := Fr.put ⟨fr.n, l, fr.regs⟩ fr.regs o.dst (some .und)) ⟨hrel', by rw [Fr.put_n], ?_⟩ hrun2
      rw [Fr.put_regs]; exact Step.refl _ _ _ _
end

/-- what is shown of a region that draws its order -/
def DrawOk (P : Program) (E : Env) (call : Cal) : Prop := ∀ (f : Nat) {α : Type} {res : α} {ops : Array Oper} {k : Fr → LH → Option α} {Q : Exit → Act → World → Prop} {fr : Fr} {σ : LH} {π : Pl} {a : Act} {w : World} (id : Nat),
    Rel fr σ π a w → drawOk ops.toList = true → opsD E call f ops.toList (befs ops.toList []) (ordD ops.toList) [] fr σ k = some res →
    (∀ fr' σ' π' a' w', k fr' σ' = some res → Run fr σ π w fr' σ' π' a' w' → Q .normal a' w') → (Code.region id ops true).wp P Q a w

/-! ## loops: what is kept of a round -/
structure Sub (b s : Fr) : Prop where
  n : b.n = s.n
  tm : ∀ t x, look b.tmps t = some x → look s.tmps t = some x
  rg : ∀ t cs, look b.regs t = some cs → look s.regs t = some cs
  cl : ∀ t u o, look b.tmps t = some (some (.reg u o)) → ∃ cs, look b.regs u = some cs

theorem Rel.sub {b s : Fr} {σ : LH} {π : Pl} {a : Act} {w : World} (h : Rel s σ π a w) (hs : Sub b s) : ∃ π', Run s σ π w b σ π' a w := by
  classical
  let π' : Pl := fun k => match k with | .hp x => π (.hp x) | .rg t => if look b.regs t = none then none else π (.rg t)
  have hsub : ∀ k e, π' k = some e → π k = some e := fun k e hk => by
    cases k with
    | hp x => exact hk
    | rg t => by_cases hh : look b.regs t = none <;> simp [π', hh] at hk; exact hk
  have hmore : More π π' := fun x e hx => hx
  have hm : ∀ k e blk, π' k = some e → cm b.regs σ.mem k = some blk → cm s.regs σ.mem k = some blk := fun k e blk hk hb => by
    cases k with
    | hp x => exact hb
    | rg t =>
      obtain ⟨cs, h1, h2⟩ := Option.map_eq_some_iff.mp (show (look b.regs t).map _ = some blk from hb)
      show (look s.regs t).map _ = some blk
      rw [hs.rg t cs h1, ← h2]; rfl
  refine ⟨π', ⟨fun t x ht => ?_, by rw [h.sz, hs.n], h.df, ⟨?_, ?_, ?_, ?_, ?_⟩, h.dom, h.mdom, ?_, ?_⟩, hs.n, ⟨rfl, rfl, rfl, Nat.le_refl _, Nat.le_refl _, fun _ _ => rfl, fun _ _ _ => rfl, fun _ _ _ => rfl, fun x blk' _ hb => ⟨blk', hb, rfl, fun _ => rfl⟩, fun k e hk => .inl (hsub k e hk)⟩⟩
  · have hx := h.tm t x (hs.tm t _ ht)
    generalize a.tmps.getD t undef = z at hx
    cases hx with
    | val v v' hv => exact .val _ _ (hv.mono hmore)
    | reg u o e he =>
      obtain ⟨cs, hcs⟩ := hs.cl t u o ht
      exact .reg u o e (by simp [π', hcs, he])
    | tup l arr hl => exact .tup l arr (hl.mono hmore)
    | und => exact .und
  · intro k e blk i v hk hb hi
    obtain ⟨v', h1, h2⟩ := h.hr.cell k e blk i v (hsub k e hk) (hm k e blk hk hb) hi
    exact ⟨v', h1, h2.mono hmore⟩
  · intro k blk ⟨e, hk⟩ hb
    exact h.hr.ones k blk ⟨e, hsub k e hk⟩ (hm k e blk hk hb)
  · intro k e blk hk hb hw
    exact h.hr.own k e blk (hsub k e hk) (hm k e blk hk hb) hw
  · intro k k' e e' blk blk' hk hk' hb hb' hne hr
    exact h.hr.inj k k' e e' blk blk' (hsub k e hk) (hsub k' e' hk') (hm k e blk hk hb) (hm k' e' blk' hk' hb') hne hr
  · intro k e hk; exact h.hr.lt k e (hsub k e hk)
  · intro t e ht
    by_cases hh : look b.regs t = none
    · simp [π', hh] at ht
    · cases hl : look b.regs t with
      | none => exact absurd hl hh
      | some cs => exact ⟨cs, rfl⟩
  · intro t cs ht
    obtain ⟨e, he⟩ := h.rg' t cs (hs.rg t cs ht)
    exact ⟨e, by simp [π', ht, he]⟩

theorem packR_some {α : Type} {fr : Fr} {res : α} (n : Nat) (hn : n = fr.n) : ∀ (rs : List (Nat × Nat)) {k : List Value → Option α}, packR fr rs k = some res → ∃ xs, k xs = some res ∧ Sub (unpackR n rs xs) fr
  | [], k, h => ⟨[], h, hn, fun t x ht => by simp [unpackR, look] at ht, fun t x ht => by simp [unpackR, look] at ht, fun t u o ht => by simp [unpackR, look] at ht⟩
  | (t, m) :: rs, k, h => by
    simp only [packR] at h
    split at h
    · rename_i cs t' hcs ht'
      obtain ⟨hb, h9⟩ := cond_some h
      rw [Bool.and_eq_true] at hb
      have hm : cs.length = m := Nat.eq_of_beq_eq_true hb.1
      have htt : t' = t := Nat.eq_of_beq_eq_true hb.2
      subst htt
      obtain ⟨xs, hk, hs⟩ := packR_some n hn rs h9
      have h1 : (cs ++ xs).drop m = xs := by rw [← hm]; simp
      have h2 : (cs ++ xs).take m = cs := by rw [← hm]; simp
      refine ⟨cs ++ xs, hk, hn, ?_, ?_, ?_⟩
      · intro u x hu
        simp only [unpackR, h1] at hu
        by_cases he : t' = u
        · subst he; rw [look_cons_same] at hu; rw [ht']; exact hu
        · rw [look_cons_ne _ _ he] at hu; exact hs.tm u x hu
      · intro u x hu
        simp only [unpackR, h1, h2] at hu
        by_cases he : t' = u
        · subst he; rw [look_cons_same] at hu; rw [hcs]; exact hu
        · rw [look_cons_ne _ _ he] at hu; exact hs.rg u x hu
      · intro u v o hu
        simp only [unpackR, h1, h2] at hu ⊢
        by_cases hv : t' = v
        · subst hv; exact ⟨_, look_cons_same _ _ _⟩
        · rw [look_cons_ne _ _ hv]
          by_cases he : t' = u
          · subst he; rw [look_cons_same] at hu; cases hu; exact absurd rfl hv
          · rw [look_cons_ne _ _ he] at hu; exact hs.cl u v o hu
    · cases h

theorem pack_some {α : Type} {fr : Fr} {res : α} (n : Nat) (hn : n = fr.n) (rs : List (Nat × Nat)) : ∀ (ts : List Nat) {k : List Value → Option α}, pack fr rs ts k = some res → ∃ xs, k xs = some res ∧ Sub (unpack n rs ts xs) fr
  | [], k, h => packR_some n hn rs h
  | t :: ts, k, h => by
    simp only [pack] at h
    split at h
    · rename_i v hv
      obtain ⟨xs, hk, hs⟩ := pack_some n hn rs ts h
      refine ⟨v :: xs, hk, hn, ?_, hs.rg, ?_⟩
      · intro u x hu
        simp only [unpack] at hu
        by_cases he : t = u
        · subst he; rw [look_cons_same] at hu; rw [hv]; exact hu
        · rw [look_cons_ne _ _ he] at hu; exact hs.tm u x hu
      · intro u w o hu
        simp only [unpack] at hu ⊢
        by_cases he : t = u
        · subst he; rw [look_cons_same] at hu; cases hu
        · rw [look_cons_ne _ _ he] at hu; exact hs.cl u w o hu
    · cases h

def Ex.to : Ex → Exit
  | .normal => .normal
  | .ret => .ret
  | .exit i => .exit i

section
variable {P : Program} {E : Env} {N : Nat} (hE : EnvOk P E) (hq : ∀ T q ks, E.eqT T = q :: ks → eqTOk P T (q :: ks) = true) {call : Cal} (hc : CallOk P call) (hD : DrawOk P E call) {f : Nat} {α : Type} {res : α}
include hE hq hc hD

theorem ev_sound : ∀ (c : Code) {fr : Fr} {σ : LH} {π : Pl} {a : Act} {w : World} {k : Ex → Fr → LH → Option α} {Q : Exit → Act → World → Prop}, Rel fr σ π a w → ev E N call f c fr σ k = some res →
    (∀ e fr' σ' π' a' w', k e fr' σ' = some res → Run fr σ π w fr' σ' π' a' w' → Q e.to a' w') → c.wp P Q a w
  | .skip, fr, σ, π, a, w, k, Q, hr, h, hk => wp_skip (hk .normal fr σ π a w h (Run.refl hr))
  | .ret, fr, σ, π, a, w, k, Q, hr, h, hk => wp_ret (hk .ret fr σ π a w h (Run.refl hr))
  | .exit id, fr, σ, π, a, w, k, Q, hr, h, hk => wp_exit (hk (.exit id) fr σ π a w h (Run.refl hr))
  | .seq x y, fr, σ, π, a, w, k, Q, hr, h, hk => by
    refine wp_seq (ev_sound x hr h fun e fr1 σ1 π1 a1 w1 hk1 r1 => ?_)
    cases e with
    | normal => exact ev_sound y r1.1 hk1 fun e fr2 σ2 π2 a2 w2 hk2 r2 => hk e fr2 σ2 π2 a2 w2 hk2 (Run.trans hr r1 r2)
    | ret => exact hk .ret fr1 σ1 π1 a1 w1 hk1 r1
    | exit i => exact hk (.exit i) fr1 σ1 π1 a1 w1 hk1 r1
  | .cond c x y, fr, σ, π, a, w, k, Q, hr, h, hk => by
    obtain ⟨v, h, hv⟩ := evV_rel hr (show fr.evV c _ = some res from h)
    obtain ⟨b, rfl, h⟩ := asB_some h
    have hax : a.eval c = .bool b := by generalize a.eval c = ax at hv; cases hv; rfl
    cases b with
    | true => exact wp_cond_true hax (ev_sound x hr h hk)
    | false => exact wp_cond_false hax (ev_sound y hr h hk)
  | .block id c, fr, σ, π, a, w, k, Q, hr, h, hk => by
    refine wp_block (ev_sound c hr h fun e fr1 σ1 π1 a1 w1 hk1 r1 => ?_)
    cases e with
    | normal => exact hk .normal fr1 σ1 π1 a1 w1 hk1 r1
    | ret => exact hk .ret fr1 σ1 π1 a1 w1 hk1 r1
    | exit i =>
      show (if i = id then _ else _)
      cases hb : Nat.beq i id with
      | true =>
        rw [if_pos (Nat.eq_of_beq_eq_true hb)]
        simp only [hb, cond_true] at hk1
        exact hk .normal fr1 σ1 π1 a1 w1 hk1 r1
      | false =>
        rw [if_neg (fun he => by subst he; simp at hb)]
        simp only [hb, cond_false] at hk1
        exact hk (.exit i) fr1 σ1 π1 a1 w1 hk1 r1
  | .region id ops draw, fr, σ, π, a, w, k, Q, hr, h, hk => by
    cases draw with
    | true =>
      obtain ⟨hb, h⟩ := cond_some (show cond _ _ none = some res from h)
      exact hD f id hr hb h fun fr' σ' π' a' w' hk' r' => hk .normal fr' σ' π' a' w' hk' r'
    | false =>
      refine wp_region ?_
      rw [List.range_eq_range']
      exact opsC_sound hE hq hc ops.toList 0 rfl fr σ π a w hr h fun fr' σ' π' a' w' hk' r' => hk .normal fr' σ' π' a' w' hk' r'
  | .loop c, fr, σ, π, a, w, k, Q, hr, h, hk => by
    simp only [ev] at h
    split at h
    · cases h
    · rename_i i hi
      generalize hts : (E.keep f i).1 = ts at h
      generalize hrs : (E.keep f i).2 = rs at h
      have key : ∀ (n : Nat) (fr1 : Fr) (σ1 : LH) (π1 : Pl) (a1 : Act) (w1 : World) (xs : List Value), Run fr σ π w fr1 σ1 π1 a1 w1 → Sub (unpack fr.n rs ts xs) fr1 →
          iterV (fun rec xs σ => unN (sizeK rs ts) xs fun l => ev E N call f c (unpack fr.n rs ts l) σ fun
            | .normal, fr, σ => pack fr rs ts fun xs => rec xs σ
            | e, fr, σ => k e fr σ) n xs σ1 = some res → Code.rounds P c Q n a1 w1 := by
        intro n
        induction n with
        | zero => intro fr1 σ1 π1 a1 w1 xs r1 hs hh; cases hh
        | succ n ih =>
          intro fr1 σ1 π1 a1 w1 xs r1 hs hh
          obtain ⟨_, hh⟩ := unN_some (show unN (sizeK rs ts) xs _ = some res from hh)
          obtain ⟨π1', r1'⟩ := r1.1.sub hs
          have r2 := Run.trans hr r1 r1'
          rw [rounds_succ]
          refine ev_sound c r2.1 hh fun e fr2 σ2 π2 a2 w2 hk2 r3 => ?_
          have r4 := Run.trans hr r2 r3
          cases e with
          | normal =>
            obtain ⟨ys, hy, hs2⟩ := pack_some fr.n r4.2.1.symm rs ts hk2
            exact ih fr2 σ2 π2 a2 w2 ys r4 hs2 hy
          | ret => exact hk .ret fr2 σ2 π2 a2 w2 hk2 r4
          | exit j => exact hk (.exit j) fr2 σ2 π2 a2 w2 hk2 r4
      obtain ⟨xs, hx, hs⟩ := pack_some fr.n rfl rs ts h
      exact wp_loop_rounds N (key N fr σ π a w xs (Run.refl hr) hs hx)
  | .rangeFunc .., _, _, _, _, _, _, _, _, h, _ => by cases h
  | .scope _, _, _, _, _, _, _, _, _, h, _ => by cases h
  | .label _, _, _, _, _, _, _, _, _, h, _ => by cases h
  | .goto _, _, _, _, _, _, _, _, _, h, _ => by cases h
  | .refuse _, _, _, _, _, _, _, _, _, h, _ => by cases h
end
end Go.Lg
