/- Devices: CrashDevice, both. -/
import Derived.Test.YtikafgoibpeagaaLgDevM
namespace Go.Lg.S
open Go Go.Lg
set_option linter.unusedVariables false
set_option linter.unusedSimpArgs false

def crashZ (z : Zone) (k : Int) : Zone := ⟨z.data.extract 0 k.toNat, k, z.full && decide (k = (z.data.size : Int))⟩
def crashOk (zs : List Zone) (keep : List Int) : Bool := (zs.zip keep).all fun p => decide (p.1.sure ≤ p.2 ∧ p.2 ≤ (p.1.data.size : Int))
def crashL (zs : List Zone) (keep : List Int) : List Zone := List.zipWith crashZ zs keep
def crashP (zs : List Zone) (keep : List Int) : List Zone × Bool :=
  if goodD zs = true ∧ keep.length = zs.length ∧ crashOk zs keep = true ∧ goodD (crashL zs keep) = true then (crashL zs keep, true) else ([], false)

theorem l2Tell_ok {N n : Nat} (hN : 4294967296 ≤ N) (hn : 3 ≤ n) {σ : LH} {v : Value} {zs : List Zone} (h : RdS σ v zs) (hl : (zs.length : Int) ≤ 2147483647) :
    evFn E N n 55 [.agg #[v]] σ = some ([.agg #[if goodD zs then v else .slice none 0 0], .bool (goodD zs)], σ) := by
  obtain ⟨n, rfl⟩ : ∃ m, n = m + 1 := ⟨n - 1, by omega⟩
  rw [F55_eq]
  simp only [F55, a1_agg, goodDevice_ok (N := N) (n := n) hN (by omega) h hl, c1_some, u1_list, pUn_not, bd_some, asB_bool]
  cases hg : goodD zs with
  | false => simp [pBuild, fillL]
  | true => simp

theorem pBuildZ (s : ByteArray) (k : Int) (b : Bool) : pBuild [.string ⟨#[]⟩, .int .i64 0, .bool false] [(0, 1, false), (1, 1, false), (2, 1, false)] [(0, .string s), (1, .int .i64 k), (2, .bool b)] = some (.agg #[.string s, .int .i64 k, .bool b]) := by
  simp [pBuild, fillL, over, Value.cells]

theorem pSs_to (s : ByteArray) (k : Int) (h0 : 0 ≤ k) (h1 : k ≤ (s.size : Int)) : pSs (.string s) none (some (.int .i64 k)) = some (.string (s.extract 0 k.toNat)) := by
  simp [pSs, pBd, asI, h0, h1]

theorem crashOk_at {zs : List Zone} {keep : List Int} {i : Nat} {z : Zone} {k : Int} (hz : zs[i]? = some z) (hk : keep[i]? = some k) (h : crashOk zs keep = true) : z.sure ≤ k ∧ k ≤ (z.data.size : Int) := by
  have hzip : (zs.zip keep)[i]? = some (z, k) := by rw [List.getElem?_zip_eq_some]; exact ⟨hz, hk⟩
  have := List.all_eq_true.1 h _ (List.mem_of_getElem? hzip)
  simpa using this

theorem crashOk_of {zs : List Zone} {keep : List Int} (h : ∀ (i : Nat) z k, zs[i]? = some z → keep[i]? = some k → z.sure ≤ k ∧ k ≤ (z.data.size : Int)) : crashOk zs keep = true := by
  refine List.all_eq_true.2 fun p hp => ?_
  obtain ⟨i, hi⟩ := List.getElem?_of_mem hp
  obtain ⟨h1, h2⟩ := List.getElem?_zip_eq_some.1 hi
  simpa using h i _ _ h1 h2
end Go.Lg.S
