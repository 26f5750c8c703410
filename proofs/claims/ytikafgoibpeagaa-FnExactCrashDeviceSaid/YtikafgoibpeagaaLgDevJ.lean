/- Devices: AppendZone, both: what they answer. -/
import Derived.Test.YtikafgoibpeagaaLgDevI
import Derived.Test.YtikafgoibpeagaaLgRc
namespace Go.Lg.S
open Go Go.Lg
set_option linter.unusedVariables false
set_option linter.unusedSimpArgs false

/-- a whole zone stored -/
theorem stZoneW {σ : LH} {v : Value} {zs : List Zone} {F : List Nat} (h : OwS σ v zs F) (hn : F.Nodup) {i : Nat} {z z' : Zone} (hz : zs[i]? = some z) (hg : Enc.good z') :
    ∃ p σ', pIA 3 v (.int .i64 (i : Nat)) = some p ∧ pSt σ 3 p z'.val = some σ' ∧ OwS σ' v (zs.set i z') F ∧ Mod (· ∈ F) σ σ' := by
  obtain ⟨p, c, Fi, h1, h2, h3, h4⟩ := h.st hn hz
  obtain ⟨⟨rfl, _⟩, rfl⟩ := h3
  obtain ⟨q, σ', w1, w2, w3, w4, _⟩ := h4 0 z'.val z' (by simp [Zone.val, Value.cells, Zone.sz]) (fun σ' _ _ => ⟨⟨by simp [over, Zone.val, Value.cells, Enc.enc], hg⟩, rfl⟩)
  obtain ⟨b, o, blk, rfl, _⟩ := h2
  simp only [pFA, Addr.add_none, Nat.add_zero, Option.some.injEq] at w1
  subst w1
  exact ⟨_, σ', h1, w2, w3, w4⟩

theorem mod_ext {F : List Nat} {a b c : LH} (he : Ext a b) (hm : Mod (· ∈ F) b c) (hF : ∀ x ∈ F, a.next ≤ x) : Ext a c :=
  ⟨Nat.le_trans he.nx hm.nx, fun x hx _ => by rw [hm.eq x (Nat.lt_of_lt_of_le hx he.nx) (fun hh => by have := hF x hh; omega)]; exact he.eq x hx id, fun h => hm.md (he.md h)⟩

theorem append1_ok {N n : Nat} (hN : 4294967296 ≤ N) (hn : 4 ≤ n) {σ : LH} (hm : MD σ) {v : Value} {zs : List Zone} (h : RdS σ v zs) (hl : (zs.length : Int) ≤ 2147483647) (k : Int) (s : ByteArray) (hs : s.size ≤ 1048576) :
    ∃ u σ' F, evFn E N n 15 [.agg #[v], .int .i64 k, .string s] σ = some ([.agg #[u], .int .i64 (appendP zs k s).2.1, .bool (appendP zs k s).2.2], σ') ∧ OwS σ' u (appendP zs k s).1 F ∧ F.Nodup ∧ (∀ b ∈ F, σ.next ≤ b) ∧ Ext σ σ' := by
  obtain ⟨n, rfl⟩ : ∃ m, n = m + 1 := ⟨n - 1, by omega⟩
  rw [F15_eq]
  have fail : ∀ σ1 : LH, Ext σ σ1 → appendP zs k s = ([], 0, false) → ∃ u σ' F, (some ([Value.agg #[.slice none 0 0], .int .i64 0, .bool false], σ1) : R) = some ([.agg #[u], .int .i64 (appendP zs k s).2.1, .bool (appendP zs k s).2.2], σ') ∧ OwS σ' u (appendP zs k s).1 F ∧ F.Nodup ∧ (∀ b ∈ F, σ.next ≤ b) ∧ Ext σ σ' := by
    intro σ1 he hP
    rw [hP]
    exact ⟨_, σ1, [], rfl, .inl ⟨rfl, .inl rfl, rfl⟩, List.nodup_nil, fun b hb => by (cases hb), he⟩
  have hnil : ∀ (σ1 : LH) (z : List Value), pBuild [.slice none 0 0] [(0, 1, false)] [] = some (.agg #[.slice none 0 0]) := fun _ _ => by simp [pBuild, fillL]
  simp only [F15, a1_agg, l2There_ok (N := N) (n := n) hN (by omega) h hl, c1_some, u1_list, pUn_not, bd_some, asB_bool, hnil σ []]
  cases ht : thereP zs k with
  | false =>
    simp only [Bool.not_false, cond_true]
    exact fail σ (Mod.refl _ _) (by simp [appendP, ht])
  | true =>
    simp only [Bool.not_true, cond_false]
    obtain ⟨hk0, hk1⟩ : 0 ≤ k ∧ k < (zs.length : Int) := by
      simp only [thereP, Bool.and_eq_true, decide_eq_true_eq] at ht; exact ht.2
    obtain ⟨i, rfl⟩ : ∃ i : Nat, k = i := ⟨k.toNat, by omega⟩
    obtain ⟨z, hz⟩ : ∃ z, zs[i]? = some z := ⟨_, List.getElem?_eq_getElem (by omega)⟩
    obtain ⟨p, p1, p2, ⟨q0, a1', a2⟩, _, ⟨q2, c1', c2⟩, hg⟩ := ldZone h hz
    have hgz : z.good = true := by
      simp only [thereP, goodD, Bool.and_eq_true] at ht
      exact List.all_eq_true.1 ht.1.2.1 z (List.mem_of_getElem? hz)
    have hz60 : z.data.size ≤ 60 := by
      simp only [Zone.good, Bool.and_eq_true, decide_eq_true_eq] at hgz; exact hgz.1
    simp only [p1, c1', c2, bd_some, asB_bool, pLs_string, in_ok (N := N) (n := n) (by omega), c1_some, u1_list, pUn_not, a1', a2, pBin_add, pBin_gtr, Bool.cond_decide]
    rw [wrapI (n := ((z.data.size : Nat) : Int) + ((s.size : Nat) : Int)) (by constructor <;> omega)]
    have hP : appendP zs ((i : Nat) : Int) s = if z.full = false ∧ (1 ≤ s.size ∧ s.size ≤ 20) ∧ z.data.size + s.size ≤ 60 ∧ goodD (zs.set i (putZ z s)) = true then (zs.set i (putZ z s), ((z.data.size : Nat) : Int), true) else ([], 0, false) := by
      simp only [appendP, ht, if_true, Int.toNat_natCast, hz]
    cases hf : z.full with
    | true =>
      simp only [cond_true]
      exact fail σ (Mod.refl _ _) (by rw [hP, if_neg (by simp [hf])])
    | false =>
      simp only [cond_false]
      by_cases h1 : 1 ≤ s.size ∧ s.size ≤ 20
      · have h1' : ((1 : Int) ≤ ((s.size : Nat) : Int) ∧ ((s.size : Nat) : Int) ≤ 20) := by omega
        simp only [h1', and_self, decide_true, Bool.not_true, cond_false]
        by_cases h2 : z.data.size + s.size ≤ 60
        · rw [if_neg (by omega)]
          obtain ⟨u, σ1, F, o1, o2, o3, o4, o5⟩ := own1_ok (N := N) (n := n) (by omega) hm h hl
          obtain ⟨p', r1, r2, _⟩ := ldZone o2.rd hz
          have hsz : (z.data ++ s).size = z.data.size + s.size := ByteArray.size_append
          obtain ⟨p3, σ2, w1, w2, w3, w4⟩ := stZoneW o2 o3 (z' := putZ z s) hz ⟨by simp only [putZ, hsz]; omega, hg.2⟩
          rw [r1] at w1; cases w1
          have hv : z.val = .agg #[.string z.data, .int .i64 z.sure, .bool z.full] := rfl
          have hw : (putZ z s).val = .agg #[.string (z.data ++ s), .int .i64 z.sure, .bool (decide ((z.data ++ s).size = 60))] := rfl
          rw [hw] at w2
          have hgd := goodDevice_ok (N := N) (n := n) hN (by omega) w3.rd (by rw [List.length_set]; omega)
          have he2 : Ext σ σ2 := mod_ext o5 w4 o4
          simp only [o1, c1_some, u1_list, a1_agg, r1, r2, bd_some]
          rw [hv]
          simp only [a3_agg, pLs_string, bd_some]
          rw [pBin_sadd _ _ _ (by omega)]
          simp only [bd_some, sc1_string, pLs_string, pBin_eql, sc1_bool]
          rw [show decide ((((z.data ++ s).size : Nat) : Int) = 60) = decide ((z.data ++ s).size = 60) by rw [Bool.eq_iff_iff]; simp only [decide_eq_true_eq]; omega]
          simp only [w2, bd_some, hgd, c1_some, u1_list, pUn_not, asB_bool]
          cases hgg : goodD (zs.set i (putZ z s)) with
          | false =>
            simp only [Bool.not_false, cond_true]
            exact fail σ2 he2 (by rw [hP, if_neg (by simp [hgg])])
          | true =>
            simp only [Bool.not_true, cond_false]
            rw [hP, if_pos ⟨hf, h1, h2, hgg⟩]
            exact ⟨u, σ2, F, rfl, w3, o3, o4, he2⟩
        · rw [if_pos (by omega)]
          exact fail σ (Mod.refl _ _) (by rw [hP, if_neg (by rintro ⟨_, _, h3, _⟩; exact h2 h3)])
      · have h1' : ¬ ((1 : Int) ≤ ((s.size : Nat) : Int) ∧ ((s.size : Nat) : Int) ≤ 20) := by omega
        simp only [h1', decide_false, Bool.not_false, cond_true]
        exact fail σ (Mod.refl _ _) (by rw [hP, if_neg (by rintro ⟨_, h3, _⟩; exact h1 h3)])
end Go.Lg.S
