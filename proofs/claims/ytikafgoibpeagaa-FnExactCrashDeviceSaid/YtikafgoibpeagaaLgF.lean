/- A seat's tables are the program's; a law's walk. -/
import Derived.Test.YtikafgoibpeagaaLgDr
import Derived.Below
namespace Go.Lg
open Go.RowKit (Below)
set_option linter.unusedVariables false

theorem look_mem {α : Type} : ∀ {l : List (Nat × α)} {t : Nat} {v : α}, look l t = some v → (t, v) ∈ l
  | [], t, v, h => by simp [look] at h
  | (u, x) :: l, t, v, h => by
    by_cases he : u = t
    · subst he; rw [look_cons_same] at h; cases h; exact .head _
    · rw [look_cons_ne _ _ he] at h; exact .tail _ (look_mem h)

def FnsOk (P : Program) : List (Nat × Func) → Prop
  | [] => True
  | (n, f) :: r => (P.funcs[n]? = some f ∧ (f.name == "runtime.NumGoroutine") = false) ∧ FnsOk P r

theorem FnsOk.get {P : Program} : ∀ {l : List (Nat × Func)}, FnsOk P l → ∀ {p : Nat × Func}, p ∈ l → P.funcs[p.1]? = some p.2 ∧ (p.2.name == "runtime.NumGoroutine") = false
  | (n, f) :: r, h, p, hm => by
    cases hm with
    | head => exact h.1
    | tail _ hm => exact FnsOk.get h.2 hm

theorem envOk {P : Program} {fns : List (Nat × Func)} {tis : List (Nat × TI)} {E : Env} (hE1 : E.fn = look fns) (hE2 : E.ti = look tis) (h1 : FnsOk P fns)
    (h2 : (tis.map fun p => tiOf P p.1) = tis.map fun p => some p.2) (h3 : (tis.all fun p => tiGood p.2) = true) (h4 : P.follows .mixedOrders = true) : EnvOk P E := by
  refine ⟨fun f fn h => ?_, fun t ti h => ?_, h4⟩
  · rw [hE1] at h; exact h1.get (look_mem h)
  · rw [hE2] at h
    have hm := look_mem h
    refine ⟨?_, List.all_eq_true.1 h3 _ hm⟩
    obtain ⟨i, hi⟩ := List.getElem?_of_mem hm
    have := congrArg (·[i]?) h2
    simp only [List.getElem?_map, hi, Option.map_some, Option.some.injEq] at this
    exact this

theorem eqsOk {P : Program} {eqs : List (Nat × List Nat)} {E : Env} (hE : E.eqT = fun t => match look eqs t with | some l => l | none => []) (h : (eqs.all fun p => eqTOk P p.1 p.2) = true) :
    ∀ T q ks, E.eqT T = q :: ks → eqTOk P T (q :: ks) = true := by
  intro T q ks he
  rw [hE] at he
  simp only at he
  split at he
  · rename_i l hl
    have := List.all_eq_true.1 h _ (look_mem hl)
    rw [he] at this; exact this
  · cases he

/-- nothing that came in may be written -/
def ReadOnly (σ : LH) : Prop := ∀ b blk, σ.mem b = some blk → blk.wr = false

/-- a law's walk -/
theorem law_walk {P : Program} {E : Env} {N n : Nat} (hE : EnvOk P E) (hq : ∀ T q ks, E.eqT T = q :: ks → eqTOk P T (q :: ks) = true) {f : Nat} {args args' : List Value} {σ σ' : LH} {x : Value} {π : Pl} {w : World}
    (h : evFn E N n f args σ = some ([x], σ')) (hr : HRel σ π w) (ho : ReadOnly σ) (hv : VRs π args args') :
    Calls P f args'.toArray w fun e w' => (∃ v π', e = .returned v ∧ VR π' x v) ∧ Below w.heap.size w w' := by
  obtain ⟨_, hc⟩ := calls_sound hE hq n f args σ [x] σ' h
  refine (hc π w args' hr hv).mono fun e w' ⟨v, π', he, hrv, _, hs, _⟩ => ⟨⟨v, π', he, ?_⟩, ⟨hs.os, hs.tape, hs.output, hs.size, fun k hk => hs.frame k hk fun key e blk _ hm _ => ?_⟩⟩
  · rcases hrv with ⟨y, h1, h2⟩ | ⟨h1, _⟩
    · cases h1; exact h2
    · exact absurd rfl h1
  · cases key with
    | hp b => exact ho b blk hm
    | rg t => simp [cm, look] at hm

theorem law_walk_bool {P : Program} {E : Env} {N n : Nat} (hE : EnvOk P E) (hq : ∀ T q ks, E.eqT T = q :: ks → eqTOk P T (q :: ks) = true) {f : Nat} {args args' : List Value} {σ σ' : LH} {b : Bool} {π : Pl} {w : World}
    (h : evFn E N n f args σ = some ([.bool b], σ')) (hr : HRel σ π w) (ho : ReadOnly σ) (hv : VRs π args args') :
    Calls P f args'.toArray w fun e w' => e = .returned (.bool b) ∧ Below w.heap.size w w' :=
  (law_walk hE hq h hr ho hv).mono fun e w' ⟨⟨v, π', he, hv⟩, hb⟩ => ⟨by cases hv; exact he, hb⟩

/-- no arguments -/
theorem HRel.empty (w : World) : HRel ⟨0, fun _ => none⟩ (fun _ => none) w :=
  ⟨⟨nofun, fun k blk ⟨e, he⟩ => (by cases he), nofun, nofun, nofun⟩, fun _ _ => rfl, fun _ _ => rfl, fun _ => rfl⟩
theorem ReadOnly.empty : ReadOnly ⟨0, fun _ => none⟩ := nofun
end Go.Lg
