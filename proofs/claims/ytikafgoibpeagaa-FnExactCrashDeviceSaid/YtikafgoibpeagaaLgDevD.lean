/- Devices: what is marked, and held. -/
import Derived.Test.YtikafgoibpeagaaLgDevC
namespace Go.Lg.S
open Go Go.Lg
set_option linter.unusedVariables false
set_option linter.unusedSimpArgs false

def patZ (k : Nat) : Zone := ⟨textOf k, ((k + 1 : Nat) : Int), decide (((k + 2) % 3 : Nat) = 0)⟩

theorem textOf_size {k : Nat} (hk : k ≤ 2147483647) : (textOf k).size ≤ 2147483648 := by
  have := textLoop_size k ⟨#[]⟩
  have h0 : (⟨#[]⟩ : ByteArray).size = 0 := rfl
  unfold textOf; omega

theorem stZone {σ : LH} {v : Value} {zs : List Zone} {F : List Nat} (h : OwS σ v zs F) (hn : F.Nodup) {i : Nat} {z : Zone} (hz : zs[i]? = some z) :
    (∀ s : ByteArray, s.size ≤ 9223372036854775807 → ∃ p q σ', pIA 3 v (.int .i64 (i : Nat)) = some p ∧ pFA p 0 = some q ∧ pSt σ 1 q (.string s) = some σ' ∧ OwS σ' v (zs.set i { z with data := s }) F ∧ Mod (· ∈ F) σ σ') ∧
    (∀ m : Int, inI m → ∃ p q σ', pIA 3 v (.int .i64 (i : Nat)) = some p ∧ pFA p 1 = some q ∧ pSt σ 1 q (.int .i64 m) = some σ' ∧ OwS σ' v (zs.set i { z with sure := m }) F ∧ Mod (· ∈ F) σ σ') ∧
    (∀ b : Bool, ∃ p q σ', pIA 3 v (.int .i64 (i : Nat)) = some p ∧ pFA p 2 = some q ∧ pSt σ 1 q (.bool b) = some σ' ∧ OwS σ' v (zs.set i { z with full := b }) F ∧ Mod (· ∈ F) σ σ') := by
  obtain ⟨p, c, Fi, h1, h2, h3, h4⟩ := h.st hn hz
  obtain ⟨⟨rfl, hg⟩, rfl⟩ := h3
  refine ⟨fun s hs => ?_, fun m hm => ?_, fun b => ?_⟩
  · obtain ⟨q, σ', w1, w2, w3, w4, _⟩ := h4 0 (.string s) { z with data := s } (by simp [Value.cells, Zone.sz]) (fun σ' _ _ => ⟨⟨by simp [over, Value.cells, Enc.enc], ⟨hs, hg.2⟩⟩, rfl⟩)
    exact ⟨p, q, σ', h1, w1, w2, w3, w4⟩
  · obtain ⟨q, σ', w1, w2, w3, w4, _⟩ := h4 1 (.int .i64 m) { z with sure := m } (by simp [Value.cells, Zone.sz]) (fun σ' _ _ => ⟨⟨by simp [over, Value.cells, Enc.enc], ⟨hg.1, hm⟩⟩, rfl⟩)
    exact ⟨p, q, σ', h1, w1, w2, w3, w4⟩
  · obtain ⟨q, σ', w1, w2, w3, w4, _⟩ := h4 2 (.bool b) { z with full := b } (by simp [Value.cells, Zone.sz]) (fun σ' _ _ => ⟨⟨by simp [over, Value.cells, Enc.enc], hg⟩, rfl⟩)
    exact ⟨p, q, σ', h1, w1, w2, w3, w4⟩

def patsZ (n k : Nat) : List Zone := (List.range n).map fun i => patZ (k + 3 * i)
theorem patsZ_get {n k i : Nat} (h : i < n) : (patsZ n k)[i]? = some (patZ (k + 3 * i)) := by simp [patsZ, h]
theorem patsZ_len (n k : Nat) : (patsZ n k).length = n := by simp [patsZ]

theorem markZoneS_ok {N n : Nat} (hN : 4294967296 ≤ N) (hn : 2 ≤ n) {σ : LH} (hm : MD σ) {v : Value} {zs : List Zone} {F : List Nat} (h : OwS σ v zs F) (hnd : F.Nodup) {k : Nat} (h0 : 0 < k) (hk : k + 3 * zs.length ≤ 2147483647) :
    ∃ σ', evFn E N n 48 [v, .int .i64 (k : Nat)] σ = some ([.int .i64 ((k + 3 * zs.length : Nat) : Int)], σ') ∧ OwS σ' v (patsZ zs.length k) F ∧ Mod (· ∈ F) σ σ' := by
  obtain ⟨n, rfl⟩ : ∃ m, n = m + 1 := ⟨n - 1, by omega⟩
  rw [F48_eq]
  simp only [F48]
  have key : ∀ (d i : Nat) (M : Nat) (σ1 : LH) (ys : List Zone), i + d = zs.length → d < M → OwS σ1 v ys F → MD σ1 → ys.length = zs.length → (∀ j, j < i → ys[j]? = some (patZ (k + 3 * j))) → Mod (· ∈ F) σ σ1 →
      ∃ σ', iterV (F48.l0 N (evFn E N n)) M [v, .int .i64 ((k + 3 * i : Nat) : Int), .int .i64 (i : Nat)] σ1 = some ([.int .i64 ((k + 3 * zs.length : Nat) : Int)], σ') ∧ OwS σ' v (patsZ zs.length k) F ∧ Mod (· ∈ F) σ σ' := by
    intro d
    induction d with
    | zero =>
      intro i M σ1 ys hi hM ho hm1 hy hpre he
      obtain ⟨M, rfl⟩ : ∃ m, M = m + 1 := ⟨M - 1, by omega⟩
      rw [iterV_succ]
      simp only [F48.l0, u3_list, ho.rd.plen, bd_some, pBin_lss, asB_bool, Bool.cond_decide]
      rw [if_neg (by omega)]
      have hyy : ys = patsZ zs.length k := List.ext_getElem? fun j => by
        rcases Nat.lt_or_ge j i with h1 | h1
        · rw [hpre j h1, patsZ_get (by omega)]
        · rw [List.getElem?_eq_none (by omega), List.getElem?_eq_none (by rw [patsZ_len]; omega)]
      subst hyy
      have : i = zs.length := by omega
      subst this
      exact ⟨σ1, rfl, ho, he⟩
    | succ d ih =>
      intro i M σ1 ys hi hM ho hm1 hy hpre he
      obtain ⟨M, rfl⟩ : ∃ m, M = m + 1 := ⟨M - 1, by omega⟩
      obtain ⟨z, hz⟩ : ∃ z, ys[i]? = some z := ⟨_, List.getElem?_eq_getElem (by omega)⟩
      obtain ⟨σ2, t1, t2⟩ := markText_ok (N := N) (n := n) hN (by omega) (σ := σ1) (k := k + 3 * i) (by omega) (by omega)
      have ho2 := ho.ext hm1 t2
      obtain ⟨p3, q3, σ3, a1, a2, a3, a4, a5⟩ := (stZone ho2 hnd hz).1 (textOf (k + 3 * i)) (by have := textOf_size (k := k + 3 * i) (by omega); omega)
      have hz3 : (ys.set i { z with data := textOf (k + 3 * i) })[i]? = some { z with data := textOf (k + 3 * i) } := List.getElem?_set_self (by omega)
      obtain ⟨p4, q4, σ4, b1, b2, b3, b4, b5⟩ := (stZone a4 hnd hz3).2.1 ((k + 3 * i + 1 : Nat) : Int) (by constructor <;> omega)
      rw [List.set_set] at b4
      have hz4 : (ys.set i { { z with data := textOf (k + 3 * i) } with sure := ((k + 3 * i + 1 : Nat) : Int) })[i]? = some { { z with data := textOf (k + 3 * i) } with sure := ((k + 3 * i + 1 : Nat) : Int) } := List.getElem?_set_self (by omega)
      obtain ⟨p5, q5, σ5, c1', c2', c3', c4', c5'⟩ := (stZone b4 hnd hz4).2.2 (decide (((k + 3 * i + 2) % 3 : Nat) = 0))
      rw [List.set_set] at c4'
      rw [a1] at b1 c1'
      cases b1
      cases c1'
      rw [iterV_succ]
      simp only [F48.l0, u3_list, ho.rd.plen, bd_some, pBin_lss, asB_bool, Bool.cond_decide]
      rw [if_pos (by omega)]
      simp only [t1, c1_some, u1_list, a1, a2, a3, bd_some, pBin_add]
      rw [wrapI (n := ((k + 3 * i : Nat) : Int) + 1) (by constructor <;> omega), show ((k + 3 * i : Nat) : Int) + 1 = ((k + 3 * i + 1 : Nat) : Int) by omega]
      simp only [b2, b3, bd_some, pBin_add]
      rw [wrapI (n := ((k + 3 * i + 1 : Nat) : Int) + 1) (by constructor <;> omega), show ((k + 3 * i + 1 : Nat) : Int) + 1 = ((k + 3 * i + 2 : Nat) : Int) by omega]
      rw [pBin_rem _ _ _ _ (by decide), show ((k + 3 * i + 2 : Nat) : Int).tmod 3 = (((k + 3 * i + 2) % 3 : Nat) : Int) from rfl]
      simp only [bd_some, pBin_eql]
      rw [show decide ((((k + 3 * i + 2) % 3 : Nat) : Int) = 0) = decide (((k + 3 * i + 2) % 3 : Nat) = 0) by rw [Bool.eq_iff_iff]; simp only [decide_eq_true_eq]; omega]
      simp only [c2', c3', bd_some, pBin_add]
      rw [wrapI (n := ((k + 3 * i + 2 : Nat) : Int) + 1) (by constructor <;> omega), wrapI (n := (i : Int) + 1) (by constructor <;> omega)]
      have hmod : Mod (· ∈ F) σ1 σ5 := ((t2.mod.trans a5).trans b5).trans c5'
      obtain ⟨σ', g1, g2, g3⟩ := ih (i + 1) M σ5 _ (by omega) (by omega) c4' (hmod.md hm1) (by rw [List.length_set]; exact hy) (fun j hj => by
        rcases Nat.eq_or_lt_of_le (Nat.le_of_lt_succ hj) with rfl | hlt
        · rw [List.getElem?_set_self (by omega)]; rfl
        · rw [List.getElem?_set_ne (by omega)]; exact hpre j hlt) (he.trans hmod)
      refine ⟨σ', ?_, g2, g3⟩
      rw [show ((k + 3 * i + 2 : Nat) : Int) + 1 = ((k + 3 * (i + 1) : Nat) : Int) by omega, show (i : Int) + 1 = ((i + 1 : Nat) : Int) by omega]
      exact g1
  exact key zs.length 0 N σ zs (by omega) (by omega) h hm rfl (fun j hj => by omega) (Mod.refl _ _)

theorem chk_pos {α : Type} {x : Option Value} {v : Value} {q : Option α} (h : x = some v) : chk x v q = q := by
  unfold chk
  cases beqO x v with
  | true => rfl
  | false => simp [h]

theorem heldZoneS_ok {N n : Nat} (hN : 4294967296 ≤ N) (hn : 2 ≤ n) {σ : LH} (hm : MD σ) {v : Value} {len k : Nat} (h : RdS σ v (patsZ len k)) (h0 : 0 < k) (hk : k + 3 * len ≤ 2147483647) :
    ∃ σ', evFn E N n 49 [v, .int .i64 (k : Nat)] σ = some ([.int .i64 ((k + 3 * len : Nat) : Int)], σ') ∧ Ext σ σ' := by
  obtain ⟨n, rfl⟩ : ∃ m, n = m + 1 := ⟨n - 1, by omega⟩
  rw [F49_eq]
  simp only [F49]
  have key : ∀ (d i : Nat) (M : Nat) (σ1 : LH), i + d = len → d < M → Ext σ σ1 →
      ∃ σ', iterV (F49.l0 N (evFn E N n)) M [v, .int .i64 ((k + 3 * i : Nat) : Int), .int .i64 (i : Nat)] σ1 = some ([.int .i64 ((k + 3 * len : Nat) : Int)], σ') ∧ Ext σ σ' := by
    intro d
    induction d with
    | zero =>
      intro i M σ1 hi hM he
      obtain ⟨M, rfl⟩ : ∃ m, M = m + 1 := ⟨M - 1, by omega⟩
      rw [iterV_succ]
      simp only [F49.l0, u3_list, (h.ext hm he).plen, patsZ_len, bd_some, pBin_lss, asB_bool, Bool.cond_decide]
      rw [if_neg (by omega)]
      have : i = len := by omega
      subst this
      exact ⟨σ1, rfl, he⟩
    | succ d ih =>
      intro i M σ1 hi hM he
      obtain ⟨M, rfl⟩ : ∃ m, M = m + 1 := ⟨M - 1, by omega⟩
      obtain ⟨σ2, t1, t2⟩ := markText_ok (N := N) (n := n) hN (by omega) (σ := σ1) (k := k + 3 * i) (by omega) (by omega)
      obtain ⟨p, e1, _, ⟨q0, f1, f2⟩, _, _, _⟩ := ldZone (h.ext hm he) (patsZ_get (k := k) (show i < len by omega))
      obtain ⟨p', e1', _, ⟨q0', f1', f2'⟩, ⟨q1, g1, g2⟩, ⟨q2, h1, h2⟩, _⟩ := ldZone (h.ext hm (he.trans t2)) (patsZ_get (k := k) (show i < len by omega))
      rw [e1] at e1'; cases e1'
      rw [f1] at f1'; cases f1'
      rw [iterV_succ]
      simp only [F49.l0, u3_list, (h.ext hm he).plen, patsZ_len, bd_some, pBin_lss, asB_bool, Bool.cond_decide]
      rw [if_pos (by omega)]
      simp only [e1, f1, f2, bd_some, t1, c1_some, u1_list, patZ]
      rw [chk_pos (by rw [f2']; rfl)]
      simp only [pBin_sneq, bd_some, asB_bool, Bool.cond_decide, ne_eq, not_true_eq_false, if_false, pBin_add]
      rw [wrapI (n := ((k + 3 * i : Nat) : Int) + 1) (by constructor <;> omega), show ((k + 3 * i : Nat) : Int) + 1 = ((k + 3 * i + 1 : Nat) : Int) by omega]
      simp only [g1, g2, patZ, bd_some, pBin_neq, asB_bool, Bool.cond_decide, ne_eq, not_true_eq_false, if_false, pBin_add]
      rw [wrapI (n := ((k + 3 * i + 1 : Nat) : Int) + 1) (by constructor <;> omega), show ((k + 3 * i + 1 : Nat) : Int) + 1 = ((k + 3 * i + 2 : Nat) : Int) by omega]
      simp only [h1, h2, patZ, bd_some]
      rw [pBin_rem _ _ _ _ (by decide), show ((k + 3 * i + 2 : Nat) : Int).tmod 3 = (((k + 3 * i + 2) % 3 : Nat) : Int) from rfl]
      simp only [bd_some, pBin_eql]
      rw [show decide ((((k + 3 * i + 2) % 3 : Nat) : Int) = 0) = decide (((k + 3 * i + 2) % 3 : Nat) = 0) by rw [Bool.eq_iff_iff]; simp only [decide_eq_true_eq]; omega]
      simp only [pBin_bne, bd_some, asB_bool, beq_self_eq_true, Bool.not_true, cond_false, pBin_add]
      rw [wrapI (n := ((k + 3 * i + 2 : Nat) : Int) + 1) (by constructor <;> omega), wrapI (n := (i : Int) + 1) (by constructor <;> omega)]
      obtain ⟨σ', k1, k2⟩ := ih (i + 1) M σ2 (by omega) (by omega) (he.trans t2)
      refine ⟨σ', ?_, k2⟩
      rw [show ((k + 3 * i + 2 : Nat) : Int) + 1 = ((k + 3 * (i + 1) : Nat) : Int) by omega, show (i : Int) + 1 = ((i + 1 : Nat) : Int) by omega]
      exact k1
  exact key len 0 N σ (by omega) (by omega) (Mod.refl _ _)
end Go.Lg.S
