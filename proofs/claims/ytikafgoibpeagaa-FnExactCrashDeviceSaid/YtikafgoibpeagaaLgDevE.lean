/- Devices: which are good. -/
import Derived.Test.YtikafgoibpeagaaLgDevD
import Derived.Test.YtikafgoibpeagaaLgRc
namespace Go.Lg.S
open Go Go.Lg
set_option linter.unusedVariables false
set_option linter.unusedSimpArgs false

def Zone.isOpen (z : Zone) : Bool := decide (z.data ≠ ⟨#[]⟩) && !z.full
def Zone.good (z : Zone) : Bool := decide (z.data.size ≤ 60) && (decide (0 ≤ z.sure ∧ z.sure ≤ (z.data.size : Int)) && (z.full || decide (z.data.size < 60)))
def goodD (zs : List Zone) : Bool := decide (1 ≤ zs.length ∧ zs.length ≤ 6) && (zs.all Zone.good && decide ((zs.filter Zone.isOpen).length ≤ 3))

theorem in_ok {N n : Nat} (hn : 1 ≤ n) {σ : LH} (a b c : Int) : evFn E N n 51 [.int .i64 a, .int .i64 b, .int .i64 c] σ = some ([.bool (decide (b ≤ a ∧ a ≤ c))], σ) := by
  obtain ⟨n, rfl⟩ : ∃ m, n = m + 1 := ⟨n - 1, by omega⟩
  rw [F51_eq]
  simp only [F51, pBin_geq, pBin_leq, bd_some, asB_bool, Bool.cond_decide]
  split
  · rename_i h; simp [show b ≤ a from h]
  · rename_i h; have : ¬ b ≤ a := h; simp [this]
theorem within_ok {N n : Nat} (hn : 1 ≤ n) {σ : LH} (a b c : Int) : evFn E N n 53 [.int .i64 a, .int .i64 b, .int .i64 c] σ = some ([.bool (decide (b ≤ a ∧ a ≤ c))], σ) := by
  obtain ⟨n, rfl⟩ : ∃ m, n = m + 1 := ⟨n - 1, by omega⟩
  rw [F53_eq]
  simp only [F53, pBin_geq, pBin_leq, bd_some, asB_bool, Bool.cond_decide]
  split
  · rename_i h; simp [h]
  · rename_i h; simp [h]
theorem l2Open_ok {N n : Nat} (hn : 1 ≤ n) {σ : LH} (z : Zone) : evFn E N n 65 [z.val] σ = some ([.bool z.isOpen], σ) := by
  obtain ⟨n, rfl⟩ : ∃ m, n = m + 1 := ⟨n - 1, by omega⟩
  rw [F65_eq]
  simp only [F65, Zone.val, a3_agg, pBin_sneq, pUn_not, bd_some, asB_bool, Bool.cond_decide, Zone.isOpen]
  split
  · rename_i h; simp [h]
  · rename_i h; simp [h]
theorem isOpen_ok {N n : Nat} (hn : 1 ≤ n) {σ : LH} (z : Zone) : evFn E N n 67 [z.val] σ = some ([.bool z.isOpen], σ) := by
  obtain ⟨n, rfl⟩ : ∃ m, n = m + 1 := ⟨n - 1, by omega⟩
  rw [F67_eq]
  simp only [F67, Zone.val, a3_agg, pBin_sneq, pUn_not, bd_some, asB_bool, Bool.cond_decide, Zone.isOpen]
  split
  · rename_i h; simp [h]
  · rename_i h; simp [h]
theorem isGood_ok {N n : Nat} (hn : 2 ≤ n) {σ : LH} (z : Zone) : evFn E N n 61 [z.val] σ = some ([.bool z.good], σ) := by
  obtain ⟨n, rfl⟩ : ∃ m, n = m + 1 := ⟨n - 1, by omega⟩
  rw [F61_eq]
  simp only [F61, Zone.val, a3_agg, pLs_string, pBin_leq, bd_some, asB_bool, Bool.cond_decide, within_ok (N := N) (n := n) (by omega), c1_some, u1_list, pBin_lss, Zone.good]
  by_cases h1 : z.data.size ≤ 60
  · rw [if_pos (by omega)]
    by_cases h2 : 0 ≤ z.sure ∧ z.sure ≤ (z.data.size : Int)
    · rw [if_pos h2]
      cases z.full
      · simp [h1, h2]; omega
      · simp [h1, h2]
    · rw [if_neg h2]; simp [h1, h2]
  · rw [if_neg (by omega)]; simp [h1]

theorem indexFunc_ok {N n : Nat} (hN : 4294967296 ≤ N) (hn : 1 ≤ n) {σ : LH} {v : Value} {zs : List Zone} (h : RdS σ v zs) (hl : (zs.length : Int) ≤ 4294967295) {f : Nat} {A B : Array Value} (p : Zone → Bool)
    (hp : ∀ z : Zone, evFn E N (n - 1) f (A.toList ++ [z.val] ++ B.toList) σ = some ([.bool (p z)], σ)) :
    ∃ r : Int, evFn E N n 77 [v, .func (.func f) A B] σ = some ([.int .i64 r], σ) ∧ (0 ≤ r ↔ zs.any p = true) := by
  obtain ⟨n, rfl⟩ : ∃ m, n = m + 1 := ⟨n - 1, by omega⟩
  rw [F77_eq]
  simp only [F77, h.plen, bd_some]
  simp only [Nat.add_sub_cancel] at hp
  have key : ∀ (d i M : Nat), i + d = zs.length → d < M → (∀ j z, j < i → zs[j]? = some z → p z = false) →
      ∃ r : Int, iterV (F77.l0 N (evFn E N n)) M [v, .func (.func f) A B, .int .i64 (zs.length : Nat), .int .i64 (i : Nat)] σ = some ([.int .i64 r], σ) ∧ (0 ≤ r ↔ zs.any p = true) := by
    intro d
    induction d with
    | zero =>
      intro i M hi hM hpre
      obtain ⟨M, rfl⟩ : ∃ m, M = m + 1 := ⟨M - 1, by omega⟩
      rw [iterV_succ]
      simp only [F77.l0, u4_list, bd_some, pBin_lss, asB_bool, Bool.cond_decide]
      rw [if_neg (by omega)]
      refine ⟨-1, rfl, ⟨fun h => by omega, fun hh => ?_⟩⟩
      obtain ⟨z, hz, hpz⟩ := List.any_eq_true.1 hh
      obtain ⟨j, hj⟩ := List.getElem?_of_mem hz
      have hjl := (List.getElem?_eq_some_iff.1 hj).1
      rw [hpre j z (by omega) hj] at hpz; cases hpz
    | succ d ih =>
      intro i M hi hM hpre
      obtain ⟨M, rfl⟩ : ∃ m, M = m + 1 := ⟨M - 1, by omega⟩
      obtain ⟨z, hz⟩ : ∃ z, zs[i]? = some z := ⟨_, List.getElem?_eq_getElem (by omega)⟩
      obtain ⟨q, q1, q2, _⟩ := ldZone h hz
      rw [iterV_succ]
      simp only [F77.l0, u4_list, bd_some, pBin_lss, asB_bool, Bool.cond_decide]
      rw [if_pos (by omega)]
      simp only [q1, q2, bd_some, asF, hp z, c1_some, u1_list, asB_bool, pBin_add]
      rw [wrapI (n := (i : Int) + 1) (by constructor <;> omega)]
      cases hpz : p z with
      | true =>
        exact ⟨(i : Nat), rfl, ⟨fun _ => List.any_eq_true.2 ⟨z, List.mem_of_getElem? hz, hpz⟩, fun _ => by omega⟩⟩
      | false =>
        exact ih (i + 1) M (by omega) (by omega) fun j y hj hy => by
          rcases Nat.eq_or_lt_of_le (Nat.le_of_lt_succ hj) with rfl | hlt
          · rw [hz] at hy; cases hy; exact hpz
          · exact hpre j y hlt hy
  exact key zs.length 0 N (by omega) (by omega) fun j z hj => by omega

theorem containsFunc_ok {N n : Nat} (hN : 4294967296 ≤ N) (hn : 2 ≤ n) {σ : LH} {v : Value} {zs : List Zone} (h : RdS σ v zs) (hl : (zs.length : Int) ≤ 4294967295) {f : Nat} {A B : Array Value} (p : Zone → Bool)
    (hp : ∀ z : Zone, evFn E N (n - 2) f (A.toList ++ [z.val] ++ B.toList) σ = some ([.bool (p z)], σ)) : evFn E N n 74 [v, .func (.func f) A B] σ = some ([.bool (zs.any p)], σ) := by
  obtain ⟨n, rfl⟩ : ∃ m, n = m + 1 := ⟨n - 1, by omega⟩
  rw [F74_eq]
  obtain ⟨r, h1, h2⟩ := indexFunc_ok (N := N) (n := n) hN (by omega) h hl p (by simpa using hp)
  simp only [F74, h1, c1_some, u1_list, pBin_geq, bd_some]
  rw [show decide (r ≥ 0) = zs.any p by rw [Bool.eq_iff_iff, ← h2]; simp]

theorem areAll_ok {N n : Nat} (hN : 4294967296 ≤ N) (hn : 6 ≤ n) {σ : LH} (hm : MD σ) {v : Value} {zs : List Zone} (h : RdS σ v zs) (hl : (zs.length : Int) ≤ 4294967295) {f : Nat} (p : Zone → Bool)
    (hp : ∀ (σ' : LH) (z : Zone), evFn E N (n - 4) f [z.val] σ' = some ([.bool (p z)], σ')) : ∃ σ', evFn E N n 60 [v, .func (.func f) #[] #[]] σ = some ([.bool (zs.all p)], σ') ∧ Ext σ σ' := by
  obtain ⟨n, rfl⟩ : ∃ m, n = m + 1 := ⟨n - 1, by omega⟩
  rw [F60_eq]
  have hc : ∀ z : Zone, evFn E N (n - 2) 75 ((#[] : Array Value).toList ++ [z.val] ++ (#[Value.pointer (some ⟨σ.next, 0, none⟩)] : Array Value).toList) (σ.push { cells := [.func (.func f) #[] #[]] }) =
      some ([.bool (!p z)], σ.push { cells := [.func (.func f) #[] #[]] }) := by
    intro z
    have hp := hp (σ.push { cells := [.func (.func f) #[] #[]] }) z
    obtain ⟨n, rfl⟩ : ∃ m, n = m + 3 := ⟨n - 3, by omega⟩
    show evFn E N (n + 1) 75 [z.val, .pointer (some ⟨σ.next, 0, none⟩)] _ = _
    rw [F75_eq]
    have hld : pLd (σ.push { cells := [.func (.func f) #[] #[]] }) 1 false (.pointer (some ⟨σ.next, 0, none⟩)) = some (.func (.func f) #[] #[]) := by simp [pLd, LH.push]
    simp only [F75, Zone.val, a3_agg, hld, bd_some, asF]
    simp only [Zone.val, Nat.add_sub_cancel] at hp
    have hp' : evFn E N n f ((#[] : Array Value).toList ++ [.agg #[.string z.data, .int .i64 z.sure, .bool z.full]] ++ (#[] : Array Value).toList) (σ.push { cells := [.func (.func f) #[] #[]] }) = some ([.bool (p z)], σ.push { cells := [.func (.func f) #[] #[]] }) := hp
    simp only [hp', c1_some, u1_list, pUn_not, bd_some]
  simp only [F60, sc1_func, hp_eq]
  rw [containsFunc_ok (N := N) (n := n) hN (by omega) (h.ext hm (Ext.push _ _)) hl (fun z => !p z) hc]
  simp only [c1_some, u1_list, pUn_not, bd_some]
  have hany : (!zs.any fun z => !p z) = zs.all p := by
    rw [Bool.eq_iff_iff]; simp
  rw [hany]
  exact ⟨_, rfl, Ext.push _ _⟩
end Go.Lg.S
