/- Slices of whole numbers: copies, equality, marks. -/
import Derived.Test.YtikafgoibpeagaaLgDevL
namespace Go.Lg.S
open Go Go.Lg
set_option linter.unusedVariables false
set_option linter.unusedSimpArgs false

theorem ldInt {σ : LH} {v : Value} {zs : List Int} (h : RdS σ v zs) {i : Nat} {z : Int} (hz : zs[i]? = some z) : ∃ p, pIA 1 v (.int .i64 (i : Nat)) = some p ∧ pLd σ 1 false p = some (.int .i64 z) ∧ inI z := by
  obtain ⟨p, c, h1, h2, h3, h4⟩ := h.at hz
  subst h3
  exact ⟨p, h1, h2.ld1, h4⟩
theorem stInt {σ : LH} {v : Value} {zs : List Int} {F : List Nat} (h : OwS σ v zs F) (hn : F.Nodup) {i : Nat} {z m : Int} (hz : zs[i]? = some z) (hm : inI m) :
    ∃ p σ', pIA 1 v (.int .i64 (i : Nat)) = some p ∧ pSt σ 1 p (.int .i64 m) = some σ' ∧ OwS σ' v (zs.set i m) F ∧ Mod (· ∈ F) σ σ' := by
  obtain ⟨p, c, Fi, h1, h2, h3, h4⟩ := h.st hn hz
  obtain ⟨⟨rfl, _⟩, rfl⟩ := h3
  obtain ⟨q, σ', w1, w2, w3, w4, _⟩ := h4 0 (.int .i64 m) m (by simp [Value.cells, show Rep.sz Int = 1 from rfl]) (fun σ' _ _ => ⟨⟨by simp [over, Value.cells, Enc.enc], hm⟩, rfl⟩)
  obtain ⟨b, o, blk, rfl, _⟩ := h2
  simp only [pFA, Addr.add_none, Nat.add_zero, Option.some.injEq] at w1
  subst w1
  exact ⟨_, σ', h1, w2, w3, w4⟩

theorem toIntS_ok {N n : Nat} (hN : 4294967296 ≤ N) (hn : 1 ≤ n) {σ : LH} (hm : MD σ) {v : Value} {zs : List Int} (h : RdS σ v zs) (hl : (zs.length : Int) ≤ 1048576) :
    ∃ u σ' F, evFn E N n 18 [v] σ = some ([u], σ') ∧ OwS σ' u zs F ∧ F.Nodup ∧ (∀ b ∈ F, σ.next ≤ b) ∧ Ext σ σ' := by
  obtain ⟨n, rfl⟩ : ∃ m, n = m + 1 := ⟨n - 1, by omega⟩
  rw [F18_eq]
  obtain ⟨u, hu, ho, a, ha⟩ := pMS_new (α := Int) (σ := σ) (z := 1) (bytes := 8) (zero := [.int .i64 0]) zs.length rfl rfl rfl (by omega) (by omega)
  simp only [F18, h.plen, bd_some, hu, b2_some]
  generalize hF : (if zs.length = 0 then [] else [σ.next]) = F at ho
  have hnd : F.Nodup := by subst hF; split <;> simp
  have hFn : ∀ b ∈ F, σ.next ≤ b := by subst hF; intro b hb; split at hb <;> simp at hb; omega
  have key : ∀ (d i : Nat) (M : Nat) (σ1 : LH) (ys : List Int), i + d = zs.length → d < M → OwS σ1 u ys F → ys.length = zs.length → (∀ j, j < i → ys[j]? = zs[j]?) → Ext σ σ1 →
      ∃ σ', iterV (F18.l0 N (evFn E N n)) M [v, u, .int .i64 (i : Nat)] σ1 = some ([u], σ') ∧ OwS σ' u zs F ∧ Ext σ σ' := by
    intro d
    induction d with
    | zero =>
      intro i M σ1 ys hi hM ho1 hy hpre he
      obtain ⟨M, rfl⟩ : ∃ m, M = m + 1 := ⟨M - 1, by omega⟩
      rw [iterV_succ]
      simp only [F18.l0, u3_list, (h.ext hm he).plen, bd_some, pBin_lss, asB_bool, Bool.cond_decide]
      rw [if_neg (by omega)]
      have : ys = zs := List.ext_getElem? fun j => by
        rcases Nat.lt_or_ge j i with h1 | h1
        · exact hpre j h1
        · rw [List.getElem?_eq_none (by omega), List.getElem?_eq_none (by omega)]
      subst this
      exact ⟨σ1, rfl, ho1, he⟩
    | succ d ih =>
      intro i M σ1 ys hi hM ho1 hy hpre he
      obtain ⟨M, rfl⟩ : ∃ m, M = m + 1 := ⟨M - 1, by omega⟩
      obtain ⟨z, hz⟩ : ∃ z, zs[i]? = some z := ⟨_, List.getElem?_eq_getElem (by omega)⟩
      obtain ⟨p, hp1, hp2, hg⟩ := ldInt (h.ext hm he) hz
      obtain ⟨y, hyy⟩ : ∃ y, ys[i]? = some y := ⟨_, List.getElem?_eq_getElem (by omega)⟩
      obtain ⟨q, σ2, w1, w2, w3, w4⟩ := stInt ho1 hnd hyy hg
      rw [iterV_succ]
      simp only [F18.l0, u3_list, (h.ext hm he).plen, bd_some, pBin_lss, asB_bool, Bool.cond_decide]
      rw [if_pos (by omega)]
      simp only [hp1, bd_some, hp2, w1, w2, pBin_add]
      rw [wrapI (n := (i : Int) + 1) (by constructor <;> omega)]
      obtain ⟨σ', g1, g2, g3⟩ := ih (i + 1) M σ2 (ys.set i z) (by omega) (by omega) w3 (by rw [List.length_set]; exact hy) (fun j hj => by
        rcases Nat.eq_or_lt_of_le (Nat.le_of_lt_succ hj) with rfl | hlt
        · rw [List.getElem?_set_self (by omega), hz]
        · rw [List.getElem?_set_ne (by omega)]; exact hpre j hlt) (mod_ext he w4 hFn)
      exact ⟨σ', by simpa using g1, g2, g3⟩
  obtain ⟨σ', g1, g2, g3⟩ := key zs.length 0 N _ _ (by omega) (by omega) ho (by simp) (fun j hj => by omega) (Ext.push σ _)
  exact ⟨u, σ', F, by simpa using g1, g2, hnd, hFn, g3⟩

theorem eqIntS_ok {N n : Nat} (hN : 4294967296 ≤ N) (hn : 1 ≤ n) {σ : LH} {v u : Value} {xs : List Int} (h : RdS σ v xs) (h2 : RdS σ u xs) (hl : (xs.length : Int) ≤ 4294967295) :
    evFn E N n 20 [v, u] σ = some ([.bool true], σ) := by
  obtain ⟨n, rfl⟩ : ∃ m, n = m + 1 := ⟨n - 1, by omega⟩
  rw [F20_eq]
  simp only [F20, h.plen, h2.plen, bd_some, pBin_neq, asB_bool, Bool.cond_decide, ne_eq, not_true_eq_false, if_false]
  have key : ∀ (d i : Nat) (M : Nat), i + d = xs.length → d < M →
      iterV (F20.l0 N (evFn E N n)) M [v, u, .int .i64 (i : Nat)] σ = some ([.bool true], σ) := by
    intro d
    induction d with
    | zero =>
      intro i M hi hM
      obtain ⟨M, rfl⟩ : ∃ m, M = m + 1 := ⟨M - 1, by omega⟩
      rw [iterV_succ]
      simp only [F20.l0, u3_list, h.plen, bd_some, pBin_lss, asB_bool, Bool.cond_decide]
      rw [if_neg (by omega)]
    | succ d ih =>
      intro i M hi hM
      obtain ⟨M, rfl⟩ : ∃ m, M = m + 1 := ⟨M - 1, by omega⟩
      obtain ⟨x, hx⟩ : ∃ x, xs[i]? = some x := ⟨_, List.getElem?_eq_getElem (by omega)⟩
      obtain ⟨p, p1, p2, _⟩ := ldInt h hx
      obtain ⟨q, q1, q2, _⟩ := ldInt h2 hx
      rw [iterV_succ]
      simp only [F20.l0, u3_list, h.plen, bd_some, pBin_lss, asB_bool, Bool.cond_decide]
      rw [if_pos (by omega)]
      simp only [p1, q1, p2, q2, bd_some, pBin_neq, asB_bool, Bool.cond_decide, ne_eq, not_true_eq_false, if_false, pBin_add]
      rw [wrapI (n := (i : Int) + 1) (by constructor <;> omega)]
      exact ih (i + 1) M (by omega) (by omega)
  exact key xs.length 0 N (by omega) (by omega)

theorem markIntS_ok {N n : Nat} (hN : 4294967296 ≤ N) (hn : 1 ≤ n) {σ : LH} {v : Value} {zs : List Int} {F : List Nat} (h : OwS σ v zs F) (hnd : F.Nodup) {k : Nat} (hk : k + zs.length ≤ 2147483647) :
    ∃ (σ' : LH) (ys : List Int), evFn E N n 21 [v, .int .i64 (k : Nat)] σ = some ([.int .i64 ((k + zs.length : Nat) : Int)], σ') ∧ OwS σ' v ys F ∧ Mod (· ∈ F) σ σ' := by
  obtain ⟨n, rfl⟩ : ∃ m, n = m + 1 := ⟨n - 1, by omega⟩
  rw [F21_eq]
  simp only [F21]
  have key : ∀ (d i : Nat) (M : Nat) (σ1 : LH) (ys : List Int), i + d = zs.length → d < M → OwS σ1 v ys F → ys.length = zs.length → Mod (· ∈ F) σ σ1 →
      ∃ (σ' : LH) (ys' : List Int), iterV (F21.l0 N (evFn E N n)) M [v, .int .i64 ((k + i : Nat) : Int), .int .i64 (i : Nat)] σ1 = some ([.int .i64 ((k + zs.length : Nat) : Int)], σ') ∧ OwS σ' v ys' F ∧ Mod (· ∈ F) σ σ' := by
    intro d
    induction d with
    | zero =>
      intro i M σ1 ys hi hM ho hy he
      obtain ⟨M, rfl⟩ : ∃ m, M = m + 1 := ⟨M - 1, by omega⟩
      rw [iterV_succ]
      simp only [F21.l0, u3_list, ho.rd.plen, bd_some, pBin_lss, asB_bool, Bool.cond_decide]
      rw [if_neg (by omega)]
      have : i = zs.length := by omega
      subst this
      exact ⟨σ1, ys, rfl, ho, he⟩
    | succ d ih =>
      intro i M σ1 ys hi hM ho hy he
      obtain ⟨M, rfl⟩ : ∃ m, M = m + 1 := ⟨M - 1, by omega⟩
      obtain ⟨z, hz⟩ : ∃ z, ys[i]? = some z := ⟨_, List.getElem?_eq_getElem (by omega)⟩
      obtain ⟨p, σ2, w1, w2, w3, w4⟩ := stInt ho hnd hz (m := ((k + i : Nat) : Int)) (by constructor <;> omega)
      rw [iterV_succ]
      simp only [F21.l0, u3_list, ho.rd.plen, bd_some, pBin_lss, asB_bool, Bool.cond_decide]
      rw [if_pos (by omega)]
      simp only [w1, w2, bd_some, pBin_add]
      rw [wrapI (n := ((k + i : Nat) : Int) + 1) (by constructor <;> omega), wrapI (n := (i : Int) + 1) (by constructor <;> omega)]
      obtain ⟨σ', ys', g1, g2, g3⟩ := ih (i + 1) M σ2 _ (by omega) (by omega) w3 (by rw [List.length_set]; exact hy) (he.trans w4)
      refine ⟨σ', ys', ?_, g2, g3⟩
      rw [show ((k + i : Nat) : Int) + 1 = ((k + (i + 1) : Nat) : Int) by omega, show (i : Int) + 1 = ((i + 1 : Nat) : Int) by omega]
      exact g1
  exact key zs.length 0 N σ zs (by omega) (by omega) h rfl (Mod.refl _ _)
end Go.Lg.S
