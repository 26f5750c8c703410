/- The law FnExactFlushDevice, on values. -/
import Derived.Test.YtikafgoibpeagaaLgDevG
namespace Go.Lg.S
open Go Go.Lg
set_option linter.unusedVariables false
set_option linter.unusedSimpArgs false

theorem szDevice_ok {N n : Nat} (hN : 4294967296 ≤ N) (hn : 3 ≤ n) {σ : LH} {v : Value} {zs : List Zone} (h : RdS σ v zs) (hl : (zs.length : Int) ≤ 9223372036854775807) {left : Int} (h0 : 0 ≤ left) (h1 : left ≤ 1048576) :
    ∃ r, evFn E N n 8 [.agg #[v], .int .i64 left] σ = some ([.int .i64 r], σ) ∧ r ≤ left ∧ (0 ≤ r → (zs.length : Int) ≤ left ∧ ∀ z ∈ zs, (z.data.size : Int) ≤ left) := by
  obtain ⟨n, rfl⟩ : ∃ m, n = m + 1 := ⟨n - 1, by omega⟩
  rw [F8_eq]
  obtain ⟨r, r1, r2, r3⟩ := szZoneS_ok (N := N) (n := n) hN (by omega) h hl h0 h1
  simp only [F8, a1_agg, r1, c1_some, u1_list, pBin_lss, bd_some, asB_bool, Bool.cond_decide]
  split
  · exact ⟨-1, rfl, by omega, by omega⟩
  · exact ⟨r, rfl, r2, r3⟩

theorem slc_sc {α : Type} [Rep α] {σ : LH} {v : Value} {xs : List α} (h : RdS σ v xs) {β : Type} (q : Option β) : sc1 v q = q := by
  rcases h with ⟨_, rfl | ⟨_, _, rfl⟩⟩ | ⟨_, _, _, _, rfl, _⟩ <;> rfl

theorem toDevice_ok {N n : Nat} (hN : 4294967296 ≤ N) (hn : 3 ≤ n) {σ : LH} (hm : MD σ) {v : Value} {zs : List Zone} (h : RdS σ v zs) (hl : (zs.length : Int) ≤ 1048576) :
    ∃ u σ' F, evFn E N n 10 [.agg #[v]] σ = some ([.agg #[u]], σ') ∧ OwS σ' u zs F ∧ F.Nodup ∧ (∀ b ∈ F, σ.next ≤ b) ∧ Ext σ σ' := by
  obtain ⟨n, rfl⟩ : ∃ m, n = m + 1 := ⟨n - 1, by omega⟩
  rw [F10_eq]
  obtain ⟨u, σ', F, h1, h2, h3⟩ := toZoneS_ok (N := N) (n := n) hN (by omega) hm h hl
  refine ⟨u, σ', F, ?_, h2, h3⟩
  simp only [F10, a1_agg, h1, c1_some, u1_list]
  rw [slc_sc h2.rd]

theorem eqDevice_ok {N n : Nat} (hN : 4294967296 ≤ N) (hn : 3 ≤ n) {σ : LH} {v u : Value} {xs : List Zone} (h : RdS σ v xs) (h2 : RdS σ u xs) (hl : (xs.length : Int) ≤ 4294967295) :
    evFn E N n 12 [.agg #[v], .agg #[u]] σ = some ([.bool true], σ) := by
  obtain ⟨n, rfl⟩ : ∃ m, n = m + 1 := ⟨n - 1, by omega⟩
  rw [F12_eq]
  simp only [F12, a1_agg, eqZoneS_ok (N := N) (n := n) hN (by omega) h h2 hl, c1_some, u1_list, pUn_not, bd_some, asB_bool, decide_true, Bool.not_true, cond_false]

theorem markDevice_ok {N n : Nat} (hN : 4294967296 ≤ N) (hn : 3 ≤ n) {σ : LH} (hm : MD σ) {v : Value} {zs : List Zone} {F : List Nat} (h : OwS σ v zs F) (hnd : F.Nodup) (hk : 1 + 3 * zs.length ≤ 2147483647) :
    ∃ σ', evFn E N n 13 [.agg #[v], .int .i64 1] σ = some ([.int .i64 ((1 + 3 * zs.length : Nat) : Int)], σ') ∧ OwS σ' v (patsZ zs.length 1) F ∧ Mod (· ∈ F) σ σ' := by
  obtain ⟨n, rfl⟩ : ∃ m, n = m + 1 := ⟨n - 1, by omega⟩
  rw [F13_eq]
  obtain ⟨σ', h1, h2, h3⟩ := markZoneS_ok (N := N) (n := n) hN (by omega) hm h hnd (k := 1) (by omega) hk
  refine ⟨σ', ?_, h2, h3⟩
  simp only [F13, a1_agg]
  rw [show (1 : Int) = ((1 : Nat) : Int) from rfl, h1]
  rfl

theorem heldDevice_ok {N n : Nat} (hN : 4294967296 ≤ N) (hn : 3 ≤ n) {σ : LH} (hm : MD σ) {v : Value} {len : Nat} (h : RdS σ v (patsZ len 1)) (hk : 1 + 3 * len ≤ 2147483647) :
    ∃ σ', evFn E N n 14 [.agg #[v], .int .i64 1] σ = some ([.int .i64 ((1 + 3 * len : Nat) : Int)], σ') ∧ Ext σ σ' := by
  obtain ⟨n, rfl⟩ : ∃ m, n = m + 1 := ⟨n - 1, by omega⟩
  rw [F14_eq]
  obtain ⟨σ', h1, h2⟩ := heldZoneS_ok (N := N) (n := n) hN (by omega) hm h (by omega) hk
  refine ⟨σ', ?_, h2⟩
  simp only [F14, a1_agg]
  rw [show (1 : Int) = ((1 : Nat) : Int) from rfl, h1]
  simp only [c1_some, u1_list, pBin_lss, bd_some, asB_bool, Bool.cond_decide]
  rw [if_neg (by omega)]

theorem law3_ok {N n : Nat} (hN : 4294967296 ≤ N) (hn : 9 ≤ n) {σ : LH} (hm : MD σ) {v : Value} {zs : List Zone} (h : RdS σ v zs) (hl : (zs.length : Int) ≤ 9223372036854775807) :
    ∃ σ', evFn E N n 3 [.agg #[v]] σ = some ([.bool true], σ') := by
  obtain ⟨n, rfl⟩ : ∃ m, n = m + 1 := ⟨n - 1, by omega⟩
  rw [F3_eq]
  obtain ⟨r, r1, r2, r3⟩ := szDevice_ok (N := N) (n := n) hN (by omega) h hl (left := 1048576) (by omega) (by omega)
  simp only [F3, a1_agg, r1, c1_some, u1_list, pBin_lss, bd_some, asB_bool, Bool.cond_decide]
  split
  · exact ⟨σ, rfl⟩
  · rename_i hr
    obtain ⟨hlen, _⟩ := r3 (by omega)
    generalize hP : (if goodD zs then flushD zs else []) = P
    have hPl : P.length ≤ 1048576 := by
      subst hP; split
      · unfold flushD; rw [List.length_map]; omega
      · simp
    obtain ⟨u7, σ6, F7, a1', a2, a3, a4, a5⟩ := toDevice_ok (N := N) (n := n) hN (by omega) hm h hlen
    have m6 := a5.md hm
    obtain ⟨u11, σ8, F11, b1, b2, b3, b4, b5⟩ := flush1_ok (N := N) (n := n) hN (by omega) m6 a2.rd (by omega)
    rw [hP] at b2
    have m8 := b5.md m6
    have e8 : Ext σ σ8 := a5.trans b5
    obtain ⟨u14, σ12, F14, c1', c2, c3, c4, c5⟩ := toDevice_ok (N := N) (n := n) hN (by omega) m8 (h.ext hm e8) hlen
    have m12 := c5.md m8
    obtain ⟨u18, σ15, F18, d1, d2, d3, d4, d5⟩ := flush2_ok (N := N) (n := n) hN (by omega) m12 c2.rd (by omega)
    rw [hP] at d2
    have m15 := d5.md m12
    have e15 : Ext σ8 σ15 := c5.trans d5
    have k1 := eqDevice_ok (N := N) (n := n) hN (by omega) d2.rd (b2.rd.ext m8 e15) (by omega)
    obtain ⟨u26, σ25, F26, f1, f2, f3, f4, f5⟩ := toDevice_ok (N := N) (n := n) hN (by omega) m15 (h.ext hm (e8.trans e15)) hlen
    have m25 := f5.md m15
    have o14 : OwS σ25 u14 zs F14 := (c2.ext m12 d5).ext m15 f5
    have k2 := eqDevice_ok (N := N) (n := n) hN (by omega) o14.rd f2.rd (by omega)
    obtain ⟨σ31, g1, g2, g3⟩ := markDevice_ok (N := N) (n := n) hN (by omega) m25 o14 c3 (by omega)
    have m31 := g3.md m25
    have lt14 := c2.lt m12
    have o18 : OwS σ31 u18 P F18 := (d2.ext m15 f5).keep fun b hb => g3.eq b ((d2.ext m15 f5).lt m25 b hb) (fun hh => by have := lt14 b hh; have := d4 b hb; omega)
    have l31 : Lo σ8 σ31 := (Lo.trans e15.lo f5.lo).mod g3 fun x hx => c4 x hx
    have k3 := eqDevice_ok (N := N) (n := n) hN (by omega) o18.rd (b2.rd.keep m8 l31) (by omega)
    obtain ⟨σ41, h1, h2, h3⟩ := markDevice_ok (N := N) (n := n) hN (by omega) m31 o18 d3 (by omega)
    have m41 := h3.md m31
    obtain ⟨σ43, i1, i2⟩ := heldDevice_ok (N := N) (n := n) hN (by omega) m41 h2.rd (by omega)
    have m43 := i2.md m41
    have l43 : Lo σ8 σ43 := (l31.mod h3 fun x hx => Nat.le_trans c5.nx (d4 x hx)).trans i2.lo
    obtain ⟨u50, σ49, F50, j1, j2, j3, j4, j5⟩ := toDevice_ok (N := N) (n := n) hN (by omega) m43 ((h.ext hm e8).keep m8 l43) hlen
    have m49 := j5.md m43
    obtain ⟨u54, σ51, F54, p1, p2, p3, p4, p5⟩ := flush2_ok (N := N) (n := n) hN (by omega) m49 j2.rd (by omega)
    rw [hP] at p2
    have m51 := p5.md m49
    have l51 : Lo σ8 σ51 := (l43.trans j5.lo).trans p5.lo
    have k4 := eqDevice_ok (N := N) (n := n) hN (by omega) p2.rd (b2.rd.keep m8 l51) (by omega)
    obtain ⟨σ61, q1, q2⟩ := heldDevice_ok (N := N) (n := n) hN (by omega) m51 (((h2.rd.ext m41 i2).ext m43 j5).ext m49 p5) (by omega)
    refine ⟨σ61, ?_⟩
    simp only [a1', b1, c1', d1, k1, f1, k2, g1, k3, h1, i1, j1, p1, k4, q1, c1_some, c2_some, u1_list, u2_list, a1_agg, pUn_not, pBin_bne, beq_self_eq_true, Bool.not_true, bd_some, asB_bool, cond_false, pBin_lss, pBin_neq, ne_eq, not_true_eq_false, decide_false, Bool.cond_decide]
    rw [if_neg (by omega), if_neg (by omega), if_neg (by omega)]
end Go.Lg.S
