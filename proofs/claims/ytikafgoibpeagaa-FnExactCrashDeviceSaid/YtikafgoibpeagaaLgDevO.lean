/- Devices: CrashDevice, the reference's. -/
import Derived.Test.YtikafgoibpeagaaLgDevN
namespace Go.Lg.S
open Go Go.Lg
set_option linter.unusedVariables false
set_option linter.unusedSimpArgs false

theorem crashL_len {zs : List Zone} {keep : List Int} (h : keep.length = zs.length) : (crashL zs keep).length = zs.length := by
  unfold crashL; rw [List.length_zipWith, h, Nat.min_self]
theorem crashL_get {zs : List Zone} {keep : List Int} {i : Nat} {z : Zone} {k : Int} (hz : zs[i]? = some z) (hk : keep[i]? = some k) : (crashL zs keep)[i]? = some (crashZ z k) := by
  unfold crashL; rw [List.getElem?_zipWith, hz, hk]
theorem crashZ_good {z : Zone} {k : Int} (hg : Enc.good z) (h0 : 0 ≤ k) (h1 : k ≤ (z.data.size : Int)) : Enc.good (crashZ z k) := by
  have := hg.1
  refine ⟨?_, ?_⟩
  · show (z.data.extract 0 k.toNat).size ≤ _
    rw [ByteArray.size_extract]; omega
  · show inI k
    constructor <;> omega

theorem crash1_ok {N n : Nat} (hN : 4294967296 ≤ N) (hn : 4 ≤ n) {σ : LH} (hm : MD σ) {v w : Value} {zs : List Zone} {keep : List Int} (h : RdS σ v zs) (hw : RdS σ w keep) (hl : (zs.length : Int) ≤ 2147483647) :
    ∃ u σ' F, evFn E N n 17 [.agg #[v], w] σ = some ([.agg #[u], .bool (crashP zs keep).2], σ') ∧ OwS σ' u (crashP zs keep).1 F ∧ F.Nodup ∧ (∀ b ∈ F, σ.next ≤ b) ∧ Ext σ σ' := by
  obtain ⟨n, rfl⟩ : ∃ m, n = m + 1 := ⟨n - 1, by omega⟩
  rw [F17_eq]
  have hnil : pBuild [.slice none 0 0] [(0, 1, false)] [] = some (.agg #[.slice none 0 0]) := by simp [pBuild, fillL]
  have fail : ∀ σ1 : LH, Ext σ σ1 → crashP zs keep = ([], false) → ∃ u σ' F, (some ([Value.agg #[.slice none 0 0], .bool false], σ1) : R) = some ([.agg #[u], .bool (crashP zs keep).2], σ') ∧ OwS σ' u (crashP zs keep).1 F ∧ F.Nodup ∧ (∀ b ∈ F, σ.next ≤ b) ∧ Ext σ σ' := by
    intro σ1 he hP
    rw [hP]
    exact ⟨_, σ1, [], rfl, .inl ⟨rfl, .inl rfl, rfl⟩, List.nodup_nil, fun b hb => by (cases hb), he⟩
  simp only [F17, a1_agg, goodDevice_ok (N := N) (n := n) hN (by omega) h hl, c1_some, u1_list, pUn_not, bd_some, asB_bool, hnil]
  cases hg : goodD zs with
  | false =>
    simp only [Bool.not_false, cond_true]
    exact fail σ (Mod.refl _ _) (by simp [crashP, hg])
  | true =>
    simp only [Bool.not_true, cond_false, h.plen, hw.plen, bd_some, pBin_neq, asB_bool, Bool.cond_decide]
    by_cases hlen : keep.length = zs.length
    · rw [if_neg (by omega)]
      obtain ⟨u, σ0, F, o1, o2, o3, o4, o5⟩ := own1_ok (N := N) (n := n) (by omega) hm h hl
      simp only [o1, c1_some, u1_list, a1_agg, o2.rd.plen, bd_some]
      have key : ∀ (d i M : Nat) (σ1 : LH) (ys : List Zone), i + d = zs.length → d < M → OwS σ1 u ys F → ys.length = zs.length →
          (∀ j z k, j < i → zs[j]? = some z → keep[j]? = some k → ys[j]? = some (crashZ z k) ∧ z.sure ≤ k ∧ k ≤ (z.data.size : Int)) → (∀ j, i ≤ j → ys[j]? = zs[j]?) → Ext σ σ1 →
          ∃ u' σ' F', iterV (F17.l0 N (evFn E N n)) M [w, u, .int .i64 (zs.length : Nat), .int .i64 (i : Nat), .slice none 0 0, u] σ1 = some ([.agg #[u'], .bool (crashP zs keep).2], σ') ∧ OwS σ' u' (crashP zs keep).1 F' ∧ F'.Nodup ∧ (∀ b ∈ F', σ.next ≤ b) ∧ Ext σ σ' := by
        intro d
        induction d with
        | zero =>
          intro i M σ1 ys hi hM ho hy h1 h2 he
          obtain ⟨M, rfl⟩ : ∃ m, M = m + 1 := ⟨M - 1, by omega⟩
          have hys : ys = crashL zs keep := List.ext_getElem? fun j => by
            rcases Nat.lt_or_ge j zs.length with hj | hj
            · obtain ⟨z, hz⟩ : ∃ z, zs[j]? = some z := ⟨_, List.getElem?_eq_getElem hj⟩
              obtain ⟨k, hk⟩ : ∃ k, keep[j]? = some k := ⟨_, List.getElem?_eq_getElem (by omega)⟩
              rw [(h1 j z k (by omega) hz hk).1, crashL_get hz hk]
            · rw [List.getElem?_eq_none (by omega), List.getElem?_eq_none (by rw [crashL_len hlen]; omega)]
          have hok : crashOk zs keep = true := crashOk_of fun j z k hz hk => (h1 j z k (by have := (List.getElem?_eq_some_iff.1 hz).1; omega) hz hk).2
          rw [iterV_succ]
          simp only [F17.l0, u6_list, bd_some, pBin_lss, asB_bool, Bool.cond_decide]
          rw [if_neg (by omega)]
          rw [l2Tell_ok (N := N) (n := n) hN (by omega) ho.rd (by omega), hys]
          simp only [c2_some, u2_list, a1_agg]
          subst hys
          cases hgg : goodD (crashL zs keep) with
          | false =>
            have hP : crashP zs keep = ([], false) := by simp [crashP, hgg]
            rw [hP]
            exact ⟨_, σ1, [], rfl, .inl ⟨rfl, .inl rfl, rfl⟩, List.nodup_nil, fun b hb => by (cases hb), he⟩
          | true =>
            have hP : crashP zs keep = (crashL zs keep, true) := by simp [crashP, hgg, hg, hlen, hok]
            rw [hP]
            exact ⟨u, σ1, F, rfl, ho, o3, o4, he⟩
        | succ d ih =>
          intro i M σ1 ys hi hM ho hy h1 h2 he
          obtain ⟨M, rfl⟩ : ∃ m, M = m + 1 := ⟨M - 1, by omega⟩
          obtain ⟨z, hz⟩ : ∃ z, zs[i]? = some z := ⟨_, List.getElem?_eq_getElem (by omega)⟩
          obtain ⟨k, hk⟩ : ∃ k, keep[i]? = some k := ⟨_, List.getElem?_eq_getElem (by omega)⟩
          have hyz : ys[i]? = some z := by rw [h2 i (Nat.le_refl _)]; exact hz
          obtain ⟨p, p1, p2, _, _, _, hgz⟩ := ldZone ho.rd hyz
          obtain ⟨q, q1, q2, _⟩ := ldInt (hw.ext hm he) hk
          have hgood : z.good = true := by
            simp only [goodD, Bool.and_eq_true] at hg
            exact List.all_eq_true.1 hg.2.1 z (List.mem_of_getElem? hz)
          have hs0 : 0 ≤ z.sure := by
            simp only [Zone.good, Bool.and_eq_true, decide_eq_true_eq] at hgood; exact hgood.2.1.1
          have hv : z.val = .agg #[.string z.data, .int .i64 z.sure, .bool z.full] := rfl
          rw [iterV_succ]
          simp only [F17.l0, u6_list, bd_some, pBin_lss, asB_bool, Bool.cond_decide]
          rw [if_pos (by omega)]
          simp only [p1, p2, bd_some]
          rw [hv]
          simp only [a3_agg, q1, q2, pLs_string, bd_some, in_ok (N := N) (n := n) (by omega), c1_some, u1_list, pUn_not, asB_bool, hnil, a1_agg]
          by_cases hc : z.sure ≤ k ∧ k ≤ (z.data.size : Int)
          · simp only [hc, and_self, decide_true, Bool.not_true, cond_false]
            rw [pSs_to z.data k (by omega) hc.2]
            simp only [bd_some]
            have hgc := crashZ_good hgz (by omega) hc.2
            obtain ⟨p', σ2, w1, w2, w3, w4⟩ := stZoneW ho o3 hyz hgc
            rw [p1] at w1; cases w1
            have hstep : (bif z.full then (bd (pBuild [.string ⟨#[]⟩, .int .i64 0, .bool false] [(0, 1, false), (1, 1, false), (2, 1, false)] [(0, .string (z.data.extract 0 k.toNat)), (1, .int .i64 k), (2, .bool (decide (k = (z.data.size : Int))))]) fun v51 => bd (pSt σ1 3 p v51) fun s => (some s : Option LH))
                else (bd (pBuild [.string ⟨#[]⟩, .int .i64 0, .bool false] [(0, 1, false), (1, 1, false), (2, 1, false)] [(0, .string (z.data.extract 0 k.toNat)), (1, .int .i64 k), (2, .bool false)]) fun v51 => bd (pSt σ1 3 p v51) fun s => (some s : Option LH))) = some σ2 := by
              have hcz : (crashZ z k).val = .agg #[.string (z.data.extract 0 k.toNat), .int .i64 k, .bool (z.full && decide (k = (z.data.size : Int)))] := rfl
              rw [hcz] at w2
              cases hf : z.full <;> rw [hf] at w2 <;> simp only [pBuildZ, bd_some, cond_true, cond_false, Bool.true_and, Bool.false_and] at w2 ⊢ <;> rw [w2] <;> rfl
            have nx := ih (i + 1) M σ2 _ (by omega) (by omega) w3 (by rw [List.length_set]; exact hy) (fun j y k2 hj hyj hkj => by
              rcases Nat.eq_or_lt_of_le (Nat.le_of_lt_succ hj) with rfl | hlt
              · rw [hz] at hyj; cases hyj
                rw [hk] at hkj; cases hkj
                exact ⟨List.getElem?_set_self (by omega), hc⟩
              · rw [List.getElem?_set_ne (by omega)]; exact h1 j y k2 hlt hyj hkj) (fun j hj => by rw [List.getElem?_set_ne (by omega)]; exact h2 j (by omega)) (mod_ext he w4 o4)
            have hcz : (crashZ z k).val = .agg #[.string (z.data.extract 0 k.toNat), .int .i64 k, .bool (z.full && decide (k = (z.data.size : Int)))] := rfl
            rw [hcz] at w2
            have e1 : (i : Int) + 1 = ((i + 1 : Nat) : Int) := by omega
            cases hf : z.full with
            | true =>
              rw [hf] at w2
              simp only [Bool.true_and] at w2
              simp only [cond_true, pBin_eql, bd_some, pBuildZ, w2, pBin_add]
              rw [wrapI (n := (i : Int) + 1) (by constructor <;> omega), e1]
              exact nx
            | false =>
              rw [hf] at w2
              simp only [Bool.false_and] at w2
              simp only [cond_false, bd_some, pBuildZ, w2, pBin_add]
              rw [wrapI (n := (i : Int) + 1) (by constructor <;> omega), e1]
              exact nx
          · simp only [hc, decide_false, Bool.not_false, cond_true]
            have hP : crashP zs keep = ([], false) := by
              have : crashOk zs keep = false := by
                cases hh : crashOk zs keep with
                | false => rfl
                | true => exact absurd (crashOk_at hz hk hh) hc
              simp [crashP, this]
            exact fail σ1 he hP
      exact key zs.length 0 N σ0 zs (by omega) (by omega) o2 rfl (fun j z k hj => by omega) (fun j _ => rfl) o5
    · rw [if_pos (by omega)]
      exact fail σ (Mod.refl _ _) (by simp [crashP, hlen])
end Go.Lg.S
