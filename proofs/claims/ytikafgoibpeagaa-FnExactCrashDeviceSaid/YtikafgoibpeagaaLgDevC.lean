/- Devices: equality of slices; the marks. -/
import Derived.Test.YtikafgoibpeagaaLgDevB
namespace Go.Lg.S
open Go Go.Lg
set_option linter.unusedVariables false
set_option linter.unusedSimpArgs false

theorem eqZoneS_ok {N n : Nat} (hN : 4294967296 ≤ N) (hn : 2 ≤ n) {σ : LH} {v u : Value} {xs ys : List Zone} (h : RdS σ v xs) (h2 : RdS σ u ys) (hl : (xs.length : Int) ≤ 4294967295) :
    evFn E N n 47 [v, u] σ = some ([.bool (decide (xs = ys))], σ) := by
  obtain ⟨n, rfl⟩ : ∃ m, n = m + 1 := ⟨n - 1, by omega⟩
  rw [F47_eq]
  simp only [F47, h.plen, h2.plen, bd_some, pBin_neq, asB_bool, Bool.cond_decide]
  split
  · rename_i hne
    have : xs ≠ ys := fun he => hne (by rw [he])
    simp [this]
  · rename_i hlen
    have hlen : xs.length = ys.length := by omega
    have key : ∀ (d i : Nat) (M : Nat), i + d = xs.length → d < M → (∀ j, j < i → xs[j]? = ys[j]?) →
        iterV (F47.l0 N (evFn E N n)) M [v, u, .int .i64 (i : Nat)] σ = some ([.bool (decide (xs = ys))], σ) := by
      intro d
      induction d with
      | zero =>
        intro i M hi hM hpre
        obtain ⟨M, rfl⟩ : ∃ m, M = m + 1 := ⟨M - 1, by omega⟩
        rw [iterV_succ]
        simp only [F47.l0, u3_list, h.plen, bd_some, pBin_lss, asB_bool, Bool.cond_decide]
        rw [if_neg (by omega)]
        have : xs = ys := List.ext_getElem? fun j => by
          rcases Nat.lt_or_ge j i with h1 | h1
          · exact hpre j h1
          · rw [List.getElem?_eq_none (by omega), List.getElem?_eq_none (by omega)]
        simp [this]
      | succ d ih =>
        intro i M hi hM hpre
        obtain ⟨M, rfl⟩ : ∃ m, M = m + 1 := ⟨M - 1, by omega⟩
        obtain ⟨x, hx⟩ : ∃ x, xs[i]? = some x := ⟨_, List.getElem?_eq_getElem (by omega)⟩
        obtain ⟨y, hy⟩ : ∃ y, ys[i]? = some y := ⟨_, List.getElem?_eq_getElem (by omega)⟩
        obtain ⟨p, p1, p2, _⟩ := ldZone h hx
        obtain ⟨q, q1, q2, _⟩ := ldZone h2 hy
        rw [iterV_succ]
        simp only [F47.l0, u3_list, h.plen, bd_some, pBin_lss, asB_bool, Bool.cond_decide]
        rw [if_pos (by omega)]
        simp only [p1, q1, p2, q2, bd_some, eqZone_ok (N := N) (n := n) (by omega) x y, c1_some, u1_list, pUn_not, asB_bool, pBin_add]
        rw [wrapI (n := (i : Int) + 1) (by constructor <;> omega)]
        by_cases hxy : x = y
        · subst hxy
          simp only [decide_true, Bool.not_true, cond_false]
          exact ih (i + 1) M (by omega) (by omega) fun j hj => by
            rcases Nat.eq_or_lt_of_le (Nat.le_of_lt_succ hj) with rfl | hlt
            · rw [hx, hy]
            · exact hpre j hlt
        · have : xs ≠ ys := fun he => by subst he; rw [hx] at hy; cases hy; exact hxy rfl
          simp [hxy, this]
    exact key xs.length 0 N (by omega) (by omega) fun j hj => by omega

def textLoop (k : Nat) (acc : ByteArray) : ByteArray := if h : k = 0 then (⟨#[109]⟩ : ByteArray) ++ acc else textLoop (k / 10) ((⟨#[UInt8.ofNat (48 + k % 10)]⟩ : ByteArray) ++ acc)
  termination_by k
  decreasing_by omega
def textOf (k : Nat) : ByteArray := textLoop k ⟨#[]⟩

theorem textLoop_size (k : Nat) (acc : ByteArray) : (textLoop k acc).size ≤ acc.size + k + 1 := by
  induction k using Nat.strongRecOn generalizing acc with
  | _ k ih =>
    unfold textLoop
    split
    · simp [ByteArray.size_append]; show 1 + _ ≤ _; omega
    · have := ih (k / 10) (by omega) ((⟨#[UInt8.ofNat (48 + k % 10)]⟩ : ByteArray) ++ acc)
      rw [ByteArray.size_append] at this
      have h1 : (⟨#[UInt8.ofNat (48 + k % 10)]⟩ : ByteArray).size = 1 := rfl
      omega

theorem markText_ok {N n : Nat} (hN : 4294967296 ≤ N) (hn : 1 ≤ n) {σ : LH} {k : Nat} (h0 : 0 < k) (hk : k ≤ 2147483647) :
    ∃ σ', evFn E N n 72 [.int .i64 (k : Nat)] σ = some ([.string (textOf k)], σ') ∧ Ext σ σ' := by
  obtain ⟨n, rfl⟩ : ∃ m, n = m + 1 := ⟨n - 1, by omega⟩
  rw [F72_eq]
  simp only [F72, bd_some, pBin_leq, asB_bool, Bool.cond_decide]
  rw [if_neg (by omega)]
  have key : ∀ (k : Nat) (M : Nat) (acc : ByteArray) (σ1 : LH), k < M → k + acc.size ≤ 2147483647 →
      ∃ σ', iterV (F72.l0 N (evFn E N n)) M [.int .i64 (k : Nat), .string acc] σ1 = some ([.string (textLoop k acc)], σ') ∧ Ext σ1 σ' := by
    intro k
    induction k using Nat.strongRecOn with
    | _ k ih =>
      intro M acc σ1 hM hs
      obtain ⟨M, rfl⟩ : ∃ m, M = m + 1 := ⟨M - 1, by omega⟩
      rw [iterV_succ]
      simp only [F72.l0, u2_list, bd_some, pBin_gtr, asB_bool, Bool.cond_decide]
      have h1 : (⟨#[109]⟩ : ByteArray).size = 1 := rfl
      by_cases hk0 : k = 0
      · subst hk0
        rw [if_neg (by omega)]
        rw [pBin_sadd _ _ _ (by omega)]
        unfold textLoop
        exact ⟨σ1, rfl, Mod.refl _ _⟩
      · rw [if_pos (by omega)]
        have hm : (k : Int).tmod 10 = ((k % 10 : Nat) : Int) := rfl
        have hd : (k : Int).tdiv 10 = ((k / 10 : Nat) : Int) := rfl
        rw [pBin_rem _ _ _ _ (by decide), pBin_quo _ _ _ _ (by decide), hm, hd]
        simp only [bd_some, pBin_add]
        rw [wrapI (n := 48 + ((k % 10 : Nat) : Int)) (by constructor <;> omega), wrapI (n := ((k / 10 : Nat) : Int)) (by constructor <;> omega)]
        have hw : IntKind.u8.wrap (48 + ((k % 10 : Nat) : Int)) = ((48 + k % 10 : Nat) : Int) := by
          simp only [IntKind.wrap, IntKind.signed, IntKind.bits]; simp; omega
        have hb : pBS σ1 [.int .u8 0] 1 1 [(0, .int .u8 ((48 + k % 10 : Nat) : Int))] = some (.slice (some ⟨σ1.next, 0, some 1⟩) 1 (capE 1), σ1.push { cells := [.int .u8 ((48 + k % 10 : Nat) : Int)] }) := by
          simp [pBS, zeros, fillL, Value.cells, over]
        have hs2 : ∀ c : Nat, pB2S (σ1.push { cells := [.int .u8 (c : Int)] }) (.slice (some ⟨σ1.next, 0, some 1⟩) 1 (capE 1)) = some (.string ⟨#[UInt8.ofNat c]⟩) := fun c => by
          simp [pB2S, cellsOf, LH.push, bytesOf]
        simp only [pInt, hw, bd_some, hb, b2_some, hs2]
        have h2 : (⟨#[UInt8.ofNat (48 + k % 10)]⟩ : ByteArray).size = 1 := rfl
        rw [pBin_sadd _ _ _ (by omega)]
        simp only [bd_some]
        obtain ⟨σ', g1, g2⟩ := ih (k / 10) (by omega) M ((⟨#[UInt8.ofNat (48 + k % 10)]⟩ : ByteArray) ++ acc) (σ1.push { cells := [.int .u8 ((48 + k % 10 : Nat) : Int)] }) (by omega) (by rw [ByteArray.size_append]; omega)
        refine ⟨σ', ?_, (Ext.push _ _).trans g2⟩
        rw [show textLoop k acc = textLoop (k / 10) ((⟨#[UInt8.ofNat (48 + k % 10)]⟩ : ByteArray) ++ acc) by rw [textLoop, dif_neg hk0]]
        exact g1
  exact key k N ⟨#[]⟩ σ (by omega) (by show k + 0 ≤ _; omega)
end Go.Lg.S
