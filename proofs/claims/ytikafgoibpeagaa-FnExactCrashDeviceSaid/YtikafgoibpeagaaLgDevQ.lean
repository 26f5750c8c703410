/- The law FnExactCrashDevice, on values. -/
import Derived.Test.YtikafgoibpeagaaLgDevP
namespace Go.Lg.S
open Go Go.Lg
set_option linter.unusedVariables false
set_option linter.unusedSimpArgs false

theorem crashP_len (zs : List Zone) (keep : List Int) : (crashP zs keep).1.length ≤ zs.length := by
  unfold crashP
  split
  · unfold crashL; rw [List.length_zipWith]; omega
  · simp

theorem law5_ok {N n : Nat} (hN : 4294967296 ≤ N) (hn : 10 ≤ n) {σ : LH} (hm : MD σ) {v w : Value} {zs : List Zone} {keep : List Int} (h : RdS σ v zs) (hw : RdS σ w keep) (hl : (zs.length : Int) ≤ 9223372036854775807) (hl2 : (keep.length : Int) ≤ 9223372036854775807) :
    ∃ σ', evFn E N n 5 [.agg #[v], w] σ = some ([.bool true], σ') := by
  obtain ⟨n, rfl⟩ : ∃ m, n = m + 1 := ⟨n - 1, by omega⟩
  rw [F5_eq]
  obtain ⟨r, r1, r2, r3⟩ := szDevice_ok (N := N) (n := n) hN (by omega) h hl (left := 1048576) (by omega) (by omega)
  simp only [F5, a1_agg, r1, c1_some, u1_list, hw.plen, pBin_gtr, pBin_lss, bd_some, asB_bool, Bool.cond_decide]
  split
  · exact ⟨σ, rfl⟩
  split
  · exact ⟨σ, rfl⟩
  · rename_i hs0 hr
    have hs : (keep.length : Int) ≤ 1048576 := by omega
    obtain ⟨hlen, _⟩ := r3 (by omega)
    have hPl := crashP_len zs keep
    generalize hP : crashP zs keep = P at hPl
    obtain ⟨u7, σ5, F7, a1', a2, a3, a4, a5⟩ := toDevice_ok (N := N) (n := n) hN (by omega) hm h hlen
    have m5 := a5.md hm
    obtain ⟨w7, σ6, G7, aa1, aa2, aa3, aa4, aa5⟩ := toIntS_ok (N := N) (n := n) hN (by omega) m5 (hw.ext hm a5) hs
    have m6 := aa5.md m5
    obtain ⟨u11, σ8, F11, b1, b2, b3, b4, b5⟩ := crash1_ok (N := N) (n := n) hN (by omega) m6 (a2.rd.ext m5 aa5) aa2.rd (by omega)
    rw [hP] at b1 b2
    have m8 := b5.md m6
    have e8 : Ext σ σ8 := (a5.trans aa5).trans b5
    obtain ⟨u14, σ11, F14, c1', c2, c3', c4, c5a⟩ := toDevice_ok (N := N) (n := n) hN (by omega) m8 (h.ext hm e8) hlen
    have m11 := c5a.md m8
    obtain ⟨w14, σ12, G14, cc1, cc2, cc3, cc4, cc5⟩ := toIntS_ok (N := N) (n := n) hN (by omega) m11 ((hw.ext hm e8).ext m8 c5a) hs
    have m12 := cc5.md m11
    have c5 : Ext σ8 σ12 := c5a.trans cc5
    have c2' := c2.ext m11 cc5
    obtain ⟨u18, σ15, F18, d1, d2, d3, d4, d5⟩ := crash2_ok (N := N) (n := n) hN (by omega) m12 c2'.rd cc2.rd (by omega)
    rw [hP] at d1 d2
    have m15 := d5.md m12
    have e15 : Ext σ8 σ15 := c5.trans d5
    have k1 := eqDevice_ok (N := N) (n := n) hN (by omega) d2.rd (b2.rd.ext m8 e15) (by omega)
    obtain ⟨u26, σ24, F26, f1, f2, f3, f4, f5a⟩ := toDevice_ok (N := N) (n := n) hN (by omega) m15 (h.ext hm (e8.trans e15)) hlen
    have m24 := f5a.md m15
    have k2 := eqDevice_ok (N := N) (n := n) hN (by omega) ((c2'.ext m12 d5).ext m15 f5a).rd f2.rd (by omega)
    obtain ⟨w26, σ25, G26, ff1, ff2, ff3, ff4, ff5⟩ := toIntS_ok (N := N) (n := n) hN (by omega) m24 ((hw.ext hm (e8.trans e15)).ext m15 f5a) hs
    have m25 := ff5.md m24
    have f5 : Ext σ15 σ25 := f5a.trans ff5
    have oW : OwS σ25 w14 keep G14 := (cc2.ext m12 d5).ext m15 f5
    have k2' := eqIntS_ok (N := N) (n := n) hN (by omega) oW.rd ff2.rd (by omega)
    have o14 : OwS σ25 u14 zs F14 := (c2'.ext m12 d5).ext m15 f5
    obtain ⟨σ30, g1, g2, g3⟩ := markDevice_ok (N := N) (n := n) hN (by omega) m25 o14 c3' (by omega)
    have m30 := g3.md m25
    have lt14 := c2'.lt m12
    have ltG := cc2.lt m12
    have lt11 := c2.lt m11
    have oW2 : OwS σ30 w14 keep G14 := oW.keep fun b hb => g3.eq b (oW.lt m25 b hb) (fun hh => by have := lt11 b hh; have := cc4 b hb; omega)
    obtain ⟨σ31, ys, gg1, gg2, gg3⟩ := markIntS_ok (N := N) (n := n) hN (by omega) oW2 cc3 (k := 1 + 3 * zs.length) (by omega)
    have m31 := gg3.md m30
    have o18a : OwS σ30 u18 P.1 F18 := (d2.ext m15 f5).keep fun b hb => g3.eq b ((d2.ext m15 f5).lt m25 b hb) (fun hh => by have := lt14 b hh; have := d4 b hb; omega)
    have o18 : OwS σ31 u18 P.1 F18 := o18a.keep fun b hb => gg3.eq b (o18a.lt m30 b hb) (fun hh => by have := ltG b hh; have := d4 b hb; omega)
    have l31 : Lo σ8 σ31 := ((Lo.trans e15.lo f5.lo).mod g3 fun x hx => c4 x hx).mod gg3 fun x hx => Nat.le_trans c5a.nx (cc4 x hx)
    have k3 := eqDevice_ok (N := N) (n := n) hN (by omega) o18.rd (b2.rd.keep m8 l31) (by omega)
    obtain ⟨σ41, h1, h2, h3⟩ := markDevice_ok (N := N) (n := n) hN (by omega) m31 o18 d3 (by omega)
    have m41 := h3.md m31
    obtain ⟨σ43, i1, i2⟩ := heldDevice_ok (N := N) (n := n) hN (by omega) m41 h2.rd (by omega)
    have m43 := i2.md m41
    have l43 : Lo σ8 σ43 := (l31.mod h3 fun x hx => Nat.le_trans c5.nx (d4 x hx)).trans i2.lo
    obtain ⟨u50, σ48, F50, j1, j2, j3, j4, j5a⟩ := toDevice_ok (N := N) (n := n) hN (by omega) m43 ((h.ext hm e8).keep m8 l43) hlen
    have m48 := j5a.md m43
    obtain ⟨w50, σ49, G50, jj1, jj2, jj3, jj4, jj5⟩ := toIntS_ok (N := N) (n := n) hN (by omega) m48 (((hw.ext hm e8).keep m8 l43).ext m43 j5a) hs
    have m49 := jj5.md m48
    have j5 : Ext σ43 σ49 := j5a.trans jj5
    obtain ⟨u54, σ51, F54, p1, p2, p3, p4, p5⟩ := crash2_ok (N := N) (n := n) hN (by omega) m49 (j2.rd.ext m48 jj5) jj2.rd (by omega)
    rw [hP] at p1 p2
    have m51 := p5.md m49
    have l51 : Lo σ8 σ51 := (l43.trans j5.lo).trans p5.lo
    have k4 := eqDevice_ok (N := N) (n := n) hN (by omega) p2.rd (b2.rd.keep m8 l51) (by omega)
    obtain ⟨σ61, q1, q2⟩ := heldDevice_ok (N := N) (n := n) hN (by omega) m51 (((h2.rd.ext m41 i2).ext m43 j5).ext m49 p5) (by omega)
    refine ⟨σ61, ?_⟩
    simp only [a1', aa1, b1, c1', cc1, d1, k1, f1, k2, ff1, k2', g1, gg1, k3, h1, i1, j1, jj1, p1, k4, q1, c1_some, c2_some, u1_list, u2_list, a1_agg, pUn_not, pBin_bne, beq_self_eq_true, Bool.not_true, bd_some, asB_bool, cond_false, pBin_lss, pBin_neq, ne_eq, not_true_eq_false, decide_false, Bool.cond_decide, if_false]
    rw [if_neg (by omega), if_neg (by omega), if_neg (by omega)]
end Go.Lg.S
