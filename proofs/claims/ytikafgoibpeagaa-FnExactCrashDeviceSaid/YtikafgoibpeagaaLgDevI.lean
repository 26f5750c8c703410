/- Devices: AppendZone, both. -/
import Derived.Test.YtikafgoibpeagaaLgDevH
namespace Go.Lg.S
open Go Go.Lg
set_option linter.unusedVariables false
set_option linter.unusedSimpArgs false

def thereP (zs : List Zone) (k : Int) : Bool := goodD zs && decide (0 ≤ k ∧ k < (zs.length : Int))
def putZ (z : Zone) (s : ByteArray) : Zone := ⟨z.data ++ s, z.sure, decide ((z.data ++ s).size = 60)⟩
def appendP (zs : List Zone) (k : Int) (s : ByteArray) : List Zone × Int × Bool :=
  if thereP zs k then
    match zs[k.toNat]? with
    | none => ([], 0, false)
    | some z =>
      if z.full = false ∧ (1 ≤ s.size ∧ s.size ≤ 20) ∧ z.data.size + s.size ≤ 60 ∧ goodD (zs.set k.toNat (putZ z s)) = true then (zs.set k.toNat (putZ z s), (z.data.size : Nat), true) else ([], 0, false)
  else ([], 0, false)

theorem l2There_ok {N n : Nat} (hN : 4294967296 ≤ N) (hn : 3 ≤ n) {σ : LH} {v : Value} {zs : List Zone} (h : RdS σ v zs) (hl : (zs.length : Int) ≤ 2147483647) (k : Int) :
    evFn E N n 50 [.agg #[v], .int .i64 k] σ = some ([.bool (thereP zs k)], σ) := by
  obtain ⟨n, rfl⟩ : ∃ m, n = m + 1 := ⟨n - 1, by omega⟩
  rw [F50_eq]
  simp only [F50, a1_agg, goodDevice_ok (N := N) (n := n) hN (by omega) h hl, c1_some, u1_list, asB_bool, pBin_geq, bd_some, Bool.cond_decide, h.plen, pBin_lss]
  cases hg : goodD zs with
  | false => simp [thereP, hg]
  | true =>
    simp only [cond_true]
    by_cases h0 : 0 ≤ k
    · rw [if_pos h0]; simp [thereP, hg, h0]
    · rw [if_neg h0]; simp [thereP, hg, h0]

theorem zoned_ok {N n : Nat} (hN : 4294967296 ≤ N) (hn : 8 ≤ n) {σ : LH} (hm : MD σ) {v : Value} {zs : List Zone} (h : RdS σ v zs) (hl : (zs.length : Int) ≤ 2147483647) (k : Int) :
    ∃ σ', evFn E N n 52 [.agg #[v], .int .i64 k] σ = some ([.bool (thereP zs k)], σ') ∧ Ext σ σ' := by
  obtain ⟨n, rfl⟩ : ∃ m, n = m + 1 := ⟨n - 1, by omega⟩
  rw [F52_eq]
  obtain ⟨σ', e1, e2⟩ := goodDevice2_ok (N := N) (n := n) hN (by omega) hm h hl
  refine ⟨σ', ?_, e2⟩
  simp only [F52, a1_agg, e1, c1_some, u1_list, asB_bool, h.plen, bd_some, pBin_sub]
  rw [wrapI (n := ((zs.length : Nat) : Int) - 1) (by constructor <;> omega)]
  cases hg : goodD zs with
  | false => simp [thereP, hg]
  | true =>
    simp only [cond_true, within_ok (N := N) (n := n) (by omega), c1_some, u1_list, thereP, hg, Bool.true_and]
    rw [show decide (0 ≤ k ∧ k ≤ ((zs.length : Nat) : Int) - 1) = decide (0 ≤ k ∧ k < ((zs.length : Nat) : Int)) by rw [Bool.eq_iff_iff]; simp only [decide_eq_true_eq]; omega]

theorem goodDevice3_ok {N n : Nat} (hN : 4294967296 ≤ N) (hn : 8 ≤ n) {σ : LH} (hm : MD σ) {v : Value} {zs : List Zone} (h : RdS σ v zs) (hl : (zs.length : Int) ≤ 2147483647) :
    ∃ σ', evFn E N n 54 [.agg #[v]] σ = some ([.agg #[if goodD zs then v else .slice none 0 0], .bool (goodD zs)], σ') ∧ Ext σ σ' := by
  obtain ⟨n, rfl⟩ : ∃ m, n = m + 1 := ⟨n - 1, by omega⟩
  rw [F54_eq]
  obtain ⟨σ', e1, e2⟩ := goodDevice2_ok (N := N) (n := n) hN (by omega) hm h hl
  refine ⟨σ', ?_, e2⟩
  simp only [F54, a1_agg, e1, c1_some, u1_list, pUn_not, bd_some, asB_bool]
  cases hg : goodD zs with
  | false => simp [pBuild, fillL]
  | true => simp
end Go.Lg.S
