/- Calls: a function's logical run is alike to the model's. -/
import Derived.Test.YtikafgoibpeagaaLgR
namespace Go.Lg
set_option linter.unusedVariables false
set_option linter.unusedSimpArgs false
set_option linter.unusedSectionVars false

def resM (tmps : Array Value) : ResultVar → Sem Value
  | .tmp t => pure (tmps.getD t undef)
  | .cell a t => do loadVar t (← asAddr (tmps.getD a undef))
theorem results_eq (fn : Func) (tmps : Array Value) : results fn tmps = (do
    let vs ← fn.results.mapM (resM tmps)
    pure (if h : vs.size = 1 then vs[0] else .tuple vs)) := rfl
theorem asAddr_run (P : Program) (w : World) (ad : Addr) : (asAddr (.pointer (some ad))).run P w = .ok ad w := rfl

section
variable {P : Program} {E : Env} (hE : EnvOk P E) {fr : Fr} {σ : LH} {π : Pl} {a : Act} {w : World} (hr : Rel fr σ π a w) {α : Type} {res : α}
include hE hr

theorem resC_sound : ∀ (l : List ResultVar) {k : List Value → Option α}, resC E fr σ l k = some res →
    ∃ vs vs', k vs = some res ∧ VRs π vs vs' ∧ (l.mapM (resM a.tmps)).run P w = .ok vs' w
  | [], k, h => ⟨[], [], h, .nil, by simp⟩
  | .tmp t :: l, k, h => by
    simp only [resC] at h
    split at h
    · rename_i v hv
      have hf := hr.tm t _ hv
      obtain ⟨vs, vs', h1, h2, h3⟩ := resC_sound l h
      have hf2 : VR π v (a.tmps.getD t undef) := by
        generalize a.tmps.getD t undef = z at hf
        cases hf with | val _ _ hh => exact hh
      refine ⟨v :: vs, a.tmps.getD t undef :: vs', h1, .cons hf2 h2, ?_⟩
      simp only [List.mapM_cons, resM, Sem.run_bind, Sem.run_pure, Result.andThen_ok, h3]
    · cases h
  | .cell c T :: l, k, h => by
    simp only [resC] at h
    have fin : ∀ {v v' : Value} {ad : Addr}, a.tmps.getD c undef = .pointer (some ad) → VR π v v' → (loadVar T ad).run P w = .ok v' w → (resC E fr σ l fun l => k (v :: l)) = some res →
        ∃ vs vs', k vs = some res ∧ VRs π vs vs' ∧ ((ResultVar.cell c T :: l).mapM (resM a.tmps)).run P w = .ok vs' w := by
      intro v v' ad h1 h2 h3 h4
      obtain ⟨vs, vs', g1, g2, g3⟩ := resC_sound l h4
      refine ⟨v :: vs, v' :: vs', g1, .cons h2 g2, ?_⟩
      simp only [List.mapM_cons, resM, Sem.run_bind, Sem.run_pure, Result.andThen_ok, h1, asAddr_run, h3, g3]
    split at h
    · rename_i ti t off hti hv
      obtain ⟨i, ds, z, hT⟩ := hE.tiok hti
      have hf := hr.tm c _ hv
      split at h
      · rename_i cs hcs
        generalize hax : a.tmps.getD c undef = z at hf
        cases hf with
        | reg _ _ e hk =>
          have hb : cm fr.regs σ.mem (.rg t) = some ⟨cs, true⟩ := by simp [cm, hcs]
          rcases rdReg_some h with ⟨g1, g2, g3⟩ | ⟨g1, v, g2, g3⟩
          · obtain ⟨v', r1, r2⟩ := run_loadVar_agg (P := P) hT hr.hr hk hb g1 g2
            exact fin hax r2 r1 g3
          · obtain ⟨v', r1, r2⟩ := run_loadVar_one (P := P) hT hr.hr hk hb g1 g2
            exact fin hax r2 r1 g3
      · cases h
    · rename_i ti p hti hv
      obtain ⟨i, ds, z, hT⟩ := hE.tiok hti
      have hf := hr.tm c _ hv
      obtain ⟨v, hv, hkk⟩ := bind_some h
      clear h
      generalize hax : a.tmps.getD c undef = z at hf
      cases hf with
      | val _ _ hp =>
      unfold pLd at hv
      split at hv
      · rename_i ad
        cases hp with
        | ptr b off e hk =>
          split at hv
          · rename_i blk hb
            have hb' : cm fr.regs σ.mem (.hp b) = some blk := hb
            split at hv
            · rename_i hag
              split at hv
              · rename_i hfit
                cases hv
                obtain ⟨v', r1, r2⟩ := run_loadVar_agg (P := P) hT hr.hr hk hb' hag hfit
                exact fin hax r2 r1 hkk
              · cases hv
            · rename_i hag
              obtain ⟨v', r1, r2⟩ := run_loadVar_one (P := P) hT hr.hr hk hb' (by simpa using hag) hv
              exact fin hax r2 r1 hkk
          · cases hv
      · cases hv
    · cases h
end

theorem look_argsF : ∀ (args : List Value) (i t : Nat) (x : Option FV), look (argsF i args) t = some x → ∃ v, x = some (.val v) ∧ i ≤ t ∧ args[t - i]? = some v
  | [], i, t, x, h => by simp [argsF, look] at h
  | v :: r, i, t, x, h => by
    by_cases he : i = t
    · subst he
      rw [argsF, look_cons_same] at h; cases h
      exact ⟨v, rfl, Nat.le_refl _, by simp⟩
    · rw [argsF, look_cons_ne _ _ he] at h
      obtain ⟨u, h1, h2, h3⟩ := look_argsF r (i + 1) t x h
      refine ⟨u, h1, by omega, ?_⟩
      rw [show t - i = (t - (i + 1)) + 1 by omega]; simpa using h3

theorem HRel.enter {σ : LH} {π : Pl} {w : World} (h : HRel σ π w) {n : Nat} {args args' : List Value} (ha : VRs π args args') (hn : args.length ≤ n) :
    Rel ⟨n, argsF 0 args, []⟩ σ π { tmps := args'.toArray ++ Array.replicate (n - args'.toArray.size) undef, defers := [] } w := by
  have hl := ha.len
  refine ⟨fun t x ht => ?_, ?_, rfl, ?_, h.dom, h.mdom, ?_, ?_⟩
  · obtain ⟨v, h1, _, h3⟩ := look_argsF args 0 t _ ht
    cases h1
    obtain ⟨v', g1, g2⟩ := ha.get h3
    have hlt : t < args'.length := by
      rcases Nat.lt_or_ge t args'.length with h' | h'
      · exact h'
      · rw [show t - 0 = t by omega, List.getElem?_eq_none h'] at g1; cases g1
    have : (args'.toArray ++ Array.replicate (n - args'.toArray.size) undef).getD t undef = v' := by
      rw [Array.getD_eq_getD_getElem?, Array.getElem?_append_left (by simpa using hlt)]
      have : args'[t]? = some v' := by simpa using g1
      simp [this]
    rw [this]; exact .val _ _ g2
  · simp; omega
  · have e : cm [] σ.mem = cm [] σ.mem := rfl
    exact h.hr
  · intro t e ht; rw [h.rg t] at ht; cases ht
  · intro t cs ht; simp [look] at ht

/-- the calls at one depth -/
theorem callOk {P : Program} {E : Env} {N : Nat} (hE : EnvOk P E) (hq : ∀ T q ks, E.eqT T = q :: ks → eqTOk P T (q :: ks) = true) (hD : ∀ call, CallOk P call → DrawOk P E call) : ∀ n, CallOk P (evFn E N n)
  | 0 => fun f args σ rs σ' h => by cases h
  | n + 1 => fun f args σ rs σ' h => by
    have ih := callOk (N := N) hE hq hD n
    simp only [evFn] at h
    split at h
    · cases h
    · rename_i fn hfn
      obtain ⟨hP, hname⟩ := hE.fn f fn hfn
      split at h
      · cases h
      · rename_i c hb
        obtain ⟨hlen, h⟩ := cond_some h
        refine ⟨⟨fn, hP, hname, by rw [hb]; rfl⟩, fun π w args' hh ha => ?_⟩
        refine calls_of_wp hP hb ?_
        have hrel := hh.enter ha (Nat.le_of_ble_eq_true hlen)
        refine ev_sound hE hq ih (hD _ ih) c hrel h fun e fr1 σ1 π1 a1 w1 hk1 r1 => ?_
        have fin : ∀ kk, (resC E fr1 σ1 fn.results.toList fun vs => some (vs, σ1)) = kk → kk = some (rs, σ') → a1.defers = [] ∧ ∃ v, (results fn a1.tmps).run P w1 = .ok v w1 ∧
            ∃ v2 π', Ending.returned v = .returned v2 ∧ RV π' rs v2 ∧ HRel σ' π' w1 ∧ Step (cm [] σ.mem) σ.next π w (cm [] σ'.mem) σ'.next π' w1 ∧ More' π π' := by
          rintro kk rfl hk
          obtain ⟨vs, vs', g1, g2, g3⟩ := resC_sound hE r1.1 _ hk
          cases g1
          have hmm : More π1 (hpOnly π1) := more_hpOnly π1
          have hrun : (results fn a1.tmps).run P w1 = .ok (if h : vs'.toArray.size = 1 then vs'.toArray[0] else .tuple vs'.toArray) w1 := by
            rw [results_eq, Array.mapM_eq_mapM_toList]
            simp only [Sem.run_bind, Sem.run_map, g3]
            rfl
          refine ⟨r1.1.df, _, hrun, _, hpOnly π1, rfl, ?_, r1.1.inner, ?_, ?_⟩
          · have hlen := g2.len
            by_cases h1 : vs'.toArray.size = 1
            · rw [dif_pos h1]
              refine .inl ?_
              have h2 : vs'.length = 1 := by simpa using h1
              cases g2 with
              | nil => cases h2
              | cons hx t =>
                cases t with
                | nil => exact ⟨_, rfl, hx.mono hmm⟩
                | cons _ _ => simp at h2
            · rw [dif_neg h1]
              exact .inr ⟨by simp at h1; omega, vs'.toArray, rfl, by simpa using g2.mono hmm⟩
          · have s := r1.2.2
            refine ⟨s.os, s.tape, s.output, s.size, s.nxt, fun b hb => s.old b hb, s.frame, fun b hb hn => s.lframe b hb hn, fun b blk' hb hm => s.wr b blk' hb hm, fun k e hk => ?_⟩
            obtain ⟨b, rfl, hb⟩ := hpOnly_some hk
            exact s.new _ e hb
          · intro k e hk
            cases k with
            | hp b =>
              have hlt : b < σ.next := by
                rcases Nat.lt_or_ge b σ.next with h' | h'
                · exact h'
                · rw [hh.dom b h'] at hk; cases hk
              show π1 (.hp b) = some e
              rw [r1.2.2.old b hlt]; exact hk
            | rg t => rw [hh.rg t] at hk; cases hk
        cases e with
        | normal => exact fin _ rfl hk1
        | ret => exact fin _ rfl hk1
        | exit i => cases hk1
end Go.Lg
