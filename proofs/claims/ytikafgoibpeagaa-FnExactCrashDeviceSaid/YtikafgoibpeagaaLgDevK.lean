/- Devices: AppendZone, the program's. -/
import Derived.Test.YtikafgoibpeagaaLgDevJ
namespace Go.Lg.S
open Go Go.Lg
set_option linter.unusedVariables false
set_option linter.unusedSimpArgs false

theorem pIA_nil {z : Nat} {v i p : Value} (h : pIA z v i = some p) : pNil p = some p := by
  unfold pIA at h
  split at h
  · split at h
    · cases h; rfl
    · cases h
  · cases h

theorem append2_ok {N n : Nat} (hN : 4294967296 ≤ N) (hn : 9 ≤ n) {σ : LH} (hm : MD σ) {v : Value} {zs : List Zone} (h : RdS σ v zs) (hl : (zs.length : Int) ≤ 2147483647) (k : Int) (s : ByteArray) (hs : s.size ≤ 1048576) :
    ∃ u σ' F, evFn E N n 16 [.agg #[v], .int .i64 k, .string s] σ = some ([.agg #[u], .int .i64 (appendP zs k s).2.1, .bool (appendP zs k s).2.2], σ') ∧ OwS σ' u (appendP zs k s).1 F ∧ F.Nodup ∧ (∀ b ∈ F, σ.next ≤ b) ∧ Ext σ σ' := by
  obtain ⟨n, rfl⟩ : ∃ m, n = m + 1 := ⟨n - 1, by omega⟩
  rw [F16_eq]
  have fail : ∀ σ1 : LH, Ext σ σ1 → appendP zs k s = ([], 0, false) → ∃ u σ' F, (some ([Value.agg #[.slice none 0 0], .int .i64 0, .bool false], σ1) : R) = some ([.agg #[u], .int .i64 (appendP zs k s).2.1, .bool (appendP zs k s).2.2], σ') ∧ OwS σ' u (appendP zs k s).1 F ∧ F.Nodup ∧ (∀ b ∈ F, σ.next ≤ b) ∧ Ext σ σ' := by
    intro σ1 he hP
    rw [hP]
    exact ⟨_, σ1, [], rfl, .inl ⟨rfl, .inl rfl, rfl⟩, List.nodup_nil, fun b hb => by (cases hb), he⟩
  have hnil : pBuild [.slice none 0 0] [(0, 1, false)] [] = some (.agg #[.slice none 0 0]) := by simp [pBuild, fillL]
  obtain ⟨σz, z1, z2⟩ := zoned_ok (N := N) (n := n) hN (by omega) hm h hl k
  have hmz := z2.md hm
  have hz' := h.ext hm z2
  simp only [F16, a1_agg, z1, c1_some, u1_list, pUn_not, bd_some, asB_bool, hnil]
  cases ht : thereP zs k with
  | false =>
    simp only [Bool.not_false, cond_true]
    exact fail σz z2 (by simp [appendP, ht])
  | true =>
    simp only [Bool.not_true, cond_false]
    obtain ⟨hk0, hk1⟩ : 0 ≤ k ∧ k < (zs.length : Int) := by
      simp only [thereP, Bool.and_eq_true, decide_eq_true_eq] at ht; exact ht.2
    obtain ⟨i, rfl⟩ : ∃ i : Nat, k = i := ⟨k.toNat, by omega⟩
    obtain ⟨z, hz⟩ : ∃ z, zs[i]? = some z := ⟨_, List.getElem?_eq_getElem (by omega)⟩
    obtain ⟨p, p1, p2, ⟨q0, a1', a2⟩, _, ⟨q2, c1', c2⟩, hg⟩ := ldZone hz' hz
    have hgz : z.good = true := by
      simp only [thereP, goodD, Bool.and_eq_true] at ht
      exact List.all_eq_true.1 ht.1.2.1 z (List.mem_of_getElem? hz)
    have hz60 : z.data.size ≤ 60 := by
      simp only [Zone.good, Bool.and_eq_true, decide_eq_true_eq] at hgz; exact hgz.1
    simp only [p1, c1', c2, bd_some, asB_bool, pLs_string, within_ok (N := N) (n := n) (by omega), c1_some, u1_list, pUn_not, a1', a2, pBin_add, pBin_gtr, Bool.cond_decide]
    rw [wrapI (n := ((z.data.size : Nat) : Int) + ((s.size : Nat) : Int)) (by constructor <;> omega)]
    have hP : appendP zs ((i : Nat) : Int) s = if z.full = false ∧ (1 ≤ s.size ∧ s.size ≤ 20) ∧ z.data.size + s.size ≤ 60 ∧ goodD (zs.set i (putZ z s)) = true then (zs.set i (putZ z s), ((z.data.size : Nat) : Int), true) else ([], 0, false) := by
      simp only [appendP, ht, if_true, Int.toNat_natCast, hz]
    cases hf : z.full with
    | true =>
      simp only [cond_true]
      exact fail σz z2 (by rw [hP, if_neg (by simp [hf])])
    | false =>
      simp only [cond_false]
      by_cases h1 : 1 ≤ s.size ∧ s.size ≤ 20
      · have h1' : ((1 : Int) ≤ ((s.size : Nat) : Int) ∧ ((s.size : Nat) : Int) ≤ 20) := by omega
        simp only [h1', and_self, decide_true, Bool.not_true, cond_false]
        by_cases h2 : z.data.size + s.size ≤ 60
        · rw [if_neg (by omega)]
          obtain ⟨u, σ1, F, o1, o2, o3, o4, o5⟩ := own2_ok (N := N) (n := n) (by omega) hmz hz' hl
          have hsz : (z.data ++ s).size = z.data.size + s.size := ByteArray.size_append
          obtain ⟨p', r1, _, ⟨r3, r4, r5⟩, _, _, _⟩ := ldZone o2.rd hz
          have hpn := pIA_nil r1
          obtain ⟨pa, qa, σ2, s1, s2, s3, s4, s5⟩ := (stZone o2 o3 hz).1 (z.data ++ s) (by rw [hsz]; omega)
          rw [r1] at s1; cases s1
          rw [r4] at s2; cases s2
          have hz2 : (zs.set i { z with data := z.data ++ s })[i]? = some { z with data := z.data ++ s } := List.getElem?_set_self (by omega)
          obtain ⟨pb, t1, _, ⟨t3, t4, t5⟩, _, _, _⟩ := ldZone s4.rd hz2
          rw [r1] at t1; cases t1
          rw [r4] at t4; cases t4
          obtain ⟨pc, qc, σ3, y1, y2, y3, y4, y5⟩ := (stZone s4 o3 hz2).2.2 (decide ((z.data ++ s).size = 60))
          rw [r1] at y1; cases y1
          rw [List.set_set] at y4
          have hput : ({ { z with data := z.data ++ s } with full := decide ((z.data ++ s).size = 60) } : Zone) = putZ z s := rfl
          rw [hput] at y4
          have o4' : ∀ b ∈ F, σ.next ≤ b := fun b hb => Nat.le_trans z2.nx (o4 b hb)
          have he3 : Ext σ σ3 := mod_ext (z2.trans o5) (s5.trans y5) o4'
          have hm3 := he3.md hm
          obtain ⟨σ4, g1, g2⟩ := goodDevice3_ok (N := N) (n := n) hN (by omega) hm3 y4.rd (by rw [List.length_set]; omega)
          simp only [o1, c1_some, u1_list, a1_agg, r1, hpn, r4, r5, bd_some, pLs_string]
          rw [pBin_sadd _ _ _ (by omega)]
          simp only [bd_some, s3, t5, pLs_string, pBin_eql]
          rw [show decide ((((z.data ++ s).size : Nat) : Int) = 60) = decide ((z.data ++ s).size = 60) by rw [Bool.eq_iff_iff]; simp only [decide_eq_true_eq]; omega]
          simp only [y2, y3, bd_some, g1, c2_some, u2_list, a1_agg, pUn_not, asB_bool]
          cases hgg : goodD (zs.set i (putZ z s)) with
          | false =>
            simp only [Bool.not_false, cond_true]
            exact fail σ4 (he3.trans g2) (by rw [hP, if_neg (by simp [hgg])])
          | true =>
            simp only [Bool.not_true, cond_false]
            have hP2 := hP
            rw [if_pos ⟨hf, h1, h2, hgg⟩] at hP2
            rw [hP2]
            exact ⟨u, σ4, F, rfl, y4.ext hm3 g2, o3, o4', he3.trans g2⟩
        · rw [if_pos (by omega)]
          exact fail σz z2 (by rw [hP, if_neg (by rintro ⟨_, _, h3, _⟩; exact h2 h3)])
      · have h1' : ¬ ((1 : Int) ≤ ((s.size : Nat) : Int) ∧ ((s.size : Nat) : Int) ≤ 20) := by omega
        simp only [h1', decide_false, Bool.not_false, cond_true]
        exact fail σz z2 (by rw [hP, if_neg (by rintro ⟨_, h3, _⟩; exact h1 h3)])
end Go.Lg.S
