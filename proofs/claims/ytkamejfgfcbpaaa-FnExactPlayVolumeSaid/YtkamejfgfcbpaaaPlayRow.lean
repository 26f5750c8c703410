/- FnExactPlayVolume returns true whatever ops it is handed, and what it was handed reads behind the call as it read before: no condition. -/
import Derived.Test.YtkamejfgfcbpaaaPlayRowA
import Derived.Test.YtkamejfgfcbpaaaRows
import Derived.Test.YtkamejfgfcbpaaaPackD
import Derived.WalkKit
import Derived.ProofKit
import Derived.OpenShut
import Derived.ShutString
import Derived.ChangeOld
import Derived.Below
import Derived.SizedLaws
namespace Go.Lg.Pv.Q
open Go Go.Lg Go.Lg.Pv
set_option linter.unusedVariables false
set_option linter.unusedSimpArgs false
set_option maxRecDepth 100000

theorem outP_len (l : List VOp) : (outP l).1.base.length ≤ 16 ∧ (outP l).1.log.length ≤ 40 ∧ (outP l).2.1.length ≤ 60 := by
  unfold outP
  split
  · rename_i h
    have hw := playV_ok l newV [] newV_ok
    exact ⟨by rw [hw.1.b]; exact Nat.le_refl _, hw.1.l, by rw [hw.2]; simpa using h⟩
  · exact ⟨by decide, by decide, by decide⟩
theorem adL_vdb (μ : PH) (w : Vol) (d : List Bool) (b : Bool) : adL true μ [w.enc, .sl [.sc] (d.map eBool), .bool b] = ([volOwn μ.length w, .own (μ.length + 2) 0 0 d.length d.length false, .bool b], μ ++ [tB 0 w.base, rB w.log, boolB d]) := by
  simp [adL, adV, unfL, Vol.enc, volOwn, tB, rB, boolB]
section
variable {N n : Nat} (hN : 4294967296 ≤ N)
include hN
theorem Q_plS (l : List VOp) (hl : l.length ≤ 1048576) {μ : PH} {i : Nat} (hi : bk μ i 0 = some (vOpB l)) : cq S_spec_PlayVolume (qfn P N (n + 9) n_spec_PlayVolume) [.own i 0 0 l.length l.length false] μ =
    some ([volOwn μ.length (outP l).1, .own (μ.length + 2) 0 0 (outP l).2.1.length (outP l).2.1.length false, .bool (outP l).2.2], μ ++ [tB 0 (outP l).1.base, rB (outP l).1.log, boolB (outP l).2.1]) := by
  rw [cq_sn rfl (by simp only [sns, S_spec_PlayVolume, snVOp hi rfl rfl rfl, Option.bind_some]) (playS (n := n + 1) hN l hl) rfl, adL_vdb]
theorem Q_plI (l : List VOp) (hl : l.length ≤ 1048576) {μ : PH} {i : Nat} (hi : bk μ i 0 = some (vOpB l)) : cq S_impl_PlayVolume (qfn P N (n + 9) n_impl_PlayVolume) [.own i 0 0 l.length l.length false] μ =
    some ([volOwn μ.length (outP l).1, .own (μ.length + 2) 0 0 (outP l).2.1.length (outP l).2.1.length false, .bool (outP l).2.2], μ ++ [tB 0 (outP l).1.base, rB (outP l).1.log, boolB (outP l).2.1]) := by
  rw [cq_sn rfl (by simp only [sns, S_impl_PlayVolume, snVOp hi rfl rfl rfl, Option.bind_some]) (playI (n := n + 1) hN l hl) rfl, adL_vdb]
theorem Q_heldB (m : Nat) (hm : m ≤ 1048576) (k : Int) (h0 : 0 < k) (h1 : k ≤ 100000000) {μ : PH} {i : Nat} (hi : bk μ i 0 = some (boolB (marksBool k m))) : cq S_laws_heldBoolS (qfn P N (n + 9) n_laws_heldBoolS) [.own i 0 0 m m false, .int .i64 k] μ = some ([.int .i64 (k + m)], μ) :=
  cq_heldBool (n := n + 8) hN m k hm h0 h1 (by simp only [sns, S_laws_heldBoolS, snBool hi rfl rfl (marksBool_len k m).symm, snI, Option.bind_some])
theorem law_play (l : List VOp) (hl : ∀ o ∈ l, o.ok) (hll : (l.length : Int) ≤ 9223372036854775807) : ∃ μ', qfn P N (n + 10) n_laws_FnExactPlayVolume [.sl shVOp (l.map VOp.enc)] [] = some ([.bool true], μ') := by
  rw [laws_FnExactPlayVolume_eq]
  unfold P_laws_FnExactPlayVolume
  rw [cq_sn (args' := [.sl shVOp (l.map VOp.enc), .int .i64 1048576]) rfl (by simp only [sns, S_laws_szVolOpS, sn_cl _ _ (vOps_cl l), snI, Option.bind_some]) (szVolOpS_ok (n := n + 7) hN l 1048576 (by decide) (by decide) hl hll) rfl, adL_sc rfl]
  simp only [c1_some, u1_list, qBin_lss, bd_some, qB_bool]
  by_cases hneg : szVOpS l 1048576 < 0
  · exact ⟨_, by simp only [hneg, decide_true, cond_true]; rfl⟩
  have hlen' := szVOpS_le hneg
  have hlen : l.length ≤ 1048576 := by omega
  simp only [hneg, decide_false, cond_false]
  have hw := outP_len l
  generalize hO : outP l = w at hw
  have b1 : w.1.base.length ≤ 1048576 := by omega
  have b2 : w.1.log.length ≤ 1048576 := by omega
  have b3 : w.2.1.length ≤ 1048576 := by omega
  have hk1 : ¬ ((1 : Int) + 5 * l.length < 0) := by omega
  have hk2 : ¬ ((1 : Int) + w.1.base.length + 4 * w.1.log.length < 0) := by omega
  have hk3 : ¬ ((1 : Int) + w.1.base.length + 4 * w.1.log.length + w.2.1.length < 0) := by omega
  rw [cq_toVOp (n := n + 7) hN l hlen]
  simp only [c1_some, u1_list, c2_some, u2_list, c3_some, u3_list, b2_some, bd_some, List.length_cons, List.length_nil, List.cons_append, List.nil_append, Nat.zero_add, Nat.reduceAdd, List.set_cons_succ, List.set_cons_zero, a4_own, fold_own]
  rw [Q_plS hN l hlen rfl, hO]
  simp only [c1_some, u1_list, c2_some, u2_list, c3_some, u3_list, b2_some, bd_some, List.length_cons, List.length_nil, List.cons_append, List.nil_append, Nat.zero_add, Nat.reduceAdd, List.set_cons_succ, List.set_cons_zero, a4_own, fold_own]
  rw [cq_toVOp (n := n + 7) hN l hlen]
  simp only [c1_some, u1_list, c2_some, u2_list, c3_some, u3_list, b2_some, bd_some, List.length_cons, List.length_nil, List.cons_append, List.nil_append, Nat.zero_add, Nat.reduceAdd, List.set_cons_succ, List.set_cons_zero, a4_own, fold_own]
  rw [Q_plI hN l hlen rfl, hO]
  simp only [c1_some, u1_list, c2_some, u2_list, c3_some, u3_list, b2_some, bd_some, List.length_cons, List.length_nil, List.cons_append, List.nil_append, Nat.zero_add, Nat.reduceAdd, List.set_cons_succ, List.set_cons_zero, a4_own, fold_own]
  rw [Q_eqV hN w.1 b1 b2 rfl rfl rfl rfl]
  simp only [c1_some, u1_list, c2_some, u2_list, c3_some, u3_list, b2_some, bd_some, List.length_cons, List.length_nil, List.cons_append, List.nil_append, Nat.zero_add, Nat.reduceAdd, List.set_cons_succ, List.set_cons_zero, a4_own, fold_own, qUn_not, qBin_lss, qBin_neq, qBin_bne, qB_bool, Bool.not_true, cond_false, decide_false, beq_self_eq_true, ne_eq, not_true_eq_false]
  rw [cq_eqBool (n := n + 8) hN w.2.1 b3 rfl rfl]
  simp only [c1_some, u1_list, c2_some, u2_list, c3_some, u3_list, b2_some, bd_some, List.length_cons, List.length_nil, List.cons_append, List.nil_append, Nat.zero_add, Nat.reduceAdd, List.set_cons_succ, List.set_cons_zero, a4_own, fold_own, qUn_not, qBin_lss, qBin_neq, qBin_bne, qB_bool, Bool.not_true, cond_false, decide_false, beq_self_eq_true, ne_eq, not_true_eq_false]
  rw [cq_toVOp (n := n + 7) hN l hlen]
  simp only [c1_some, u1_list, c2_some, u2_list, c3_some, u3_list, b2_some, bd_some, List.length_cons, List.length_nil, List.cons_append, List.nil_append, Nat.zero_add, Nat.reduceAdd, List.set_cons_succ, List.set_cons_zero, a4_own, fold_own]
  rw [cq_eqVOp (n := n + 7) hN l hlen rfl rfl]
  simp only [c1_some, u1_list, c2_some, u2_list, c3_some, u3_list, b2_some, bd_some, List.length_cons, List.length_nil, List.cons_append, List.nil_append, Nat.zero_add, Nat.reduceAdd, List.set_cons_succ, List.set_cons_zero, a4_own, fold_own, qUn_not, qBin_lss, qBin_neq, qBin_bne, qB_bool, Bool.not_true, cond_false, decide_false, beq_self_eq_true, ne_eq, not_true_eq_false]
  rw [markVolOpS_ok (n := n + 7) hN (id := 4) (b := vOpB l) rfl rfl rfl rfl hlen (by decide) (by decide)]
  simp only [c1_some, u1_list, c2_some, u2_list, c3_some, u3_list, b2_some, bd_some, List.length_cons, List.length_nil, List.cons_append, List.nil_append, Nat.zero_add, Nat.reduceAdd, List.set_cons_succ, List.set_cons_zero, a4_own, fold_own, hk1, qUn_not, qBin_lss, qBin_neq, qBin_bne, qB_bool, Bool.not_true, cond_false, decide_false, beq_self_eq_true, ne_eq, not_true_eq_false]
  rw [Q_eqV hN w.1 b1 b2 rfl rfl rfl rfl]
  simp only [c1_some, u1_list, c2_some, u2_list, c3_some, u3_list, b2_some, bd_some, List.length_cons, List.length_nil, List.cons_append, List.nil_append, Nat.zero_add, Nat.reduceAdd, List.set_cons_succ, List.set_cons_zero, a4_own, fold_own, qUn_not, qBin_lss, qBin_neq, qBin_bne, qB_bool, Bool.not_true, cond_false, decide_false, beq_self_eq_true, ne_eq, not_true_eq_false]
  rw [cq_eqBool (n := n + 8) hN w.2.1 b3 rfl rfl]
  simp only [c1_some, u1_list, c2_some, u2_list, c3_some, u3_list, b2_some, bd_some, List.length_cons, List.length_nil, List.cons_append, List.nil_append, Nat.zero_add, Nat.reduceAdd, List.set_cons_succ, List.set_cons_zero, a4_own, fold_own, qUn_not, qBin_lss, qBin_neq, qBin_bne, qB_bool, Bool.not_true, cond_false, decide_false, beq_self_eq_true, ne_eq, not_true_eq_false]
  rw [markV hN w.1 b1 b2 rfl rfl]
  simp only [c1_some, u1_list, c2_some, u2_list, c3_some, u3_list, b2_some, bd_some, List.length_cons, List.length_nil, List.cons_append, List.nil_append, Nat.zero_add, Nat.reduceAdd, List.set_cons_succ, List.set_cons_zero, a4_own, fold_own]
  rw [markBoolS_ok (n := n + 8) hN (id := 7) (b := boolB w.2.1) rfl rfl rfl rfl b3 (by omega) (by omega)]
  simp only [c1_some, u1_list, c2_some, u2_list, c3_some, u3_list, b2_some, bd_some, List.length_cons, List.length_nil, List.cons_append, List.nil_append, Nat.zero_add, Nat.reduceAdd, List.set_cons_succ, List.set_cons_zero, a4_own, fold_own]
  rw [Q_heldV hN w.1 b1 b2 rfl rfl]
  simp only [c1_some, u1_list, c2_some, u2_list, c3_some, u3_list, b2_some, bd_some, List.length_cons, List.length_nil, List.cons_append, List.nil_append, Nat.zero_add, Nat.reduceAdd, List.set_cons_succ, List.set_cons_zero, a4_own, fold_own, hk2, qUn_not, qBin_lss, qBin_neq, qBin_bne, qB_bool, Bool.not_true, cond_false, decide_false, beq_self_eq_true, ne_eq, not_true_eq_false]
  rw [Q_heldB hN w.2.1.length b3 (1 + w.1.base.length + 4 * w.1.log.length) (by omega) (by omega) rfl]
  simp only [c1_some, u1_list, c2_some, u2_list, c3_some, u3_list, b2_some, bd_some, List.length_cons, List.length_nil, List.cons_append, List.nil_append, Nat.zero_add, Nat.reduceAdd, List.set_cons_succ, List.set_cons_zero, a4_own, fold_own, hk3, qUn_not, qBin_lss, qBin_neq, qBin_bne, qB_bool, Bool.not_true, cond_false, decide_false, beq_self_eq_true, ne_eq, not_true_eq_false]
  rw [cq_toVOp (n := n + 7) hN l hlen]
  simp only [c1_some, u1_list, c2_some, u2_list, c3_some, u3_list, b2_some, bd_some, List.length_cons, List.length_nil, List.cons_append, List.nil_append, Nat.zero_add, Nat.reduceAdd, List.set_cons_succ, List.set_cons_zero, a4_own, fold_own]
  rw [Q_plI hN l hlen rfl, hO]
  simp only [c1_some, u1_list, c2_some, u2_list, c3_some, u3_list, b2_some, bd_some, List.length_cons, List.length_nil, List.cons_append, List.nil_append, Nat.zero_add, Nat.reduceAdd, List.set_cons_succ, List.set_cons_zero, a4_own, fold_own]
  rw [Q_eqV hN w.1 b1 b2 rfl rfl rfl rfl]
  simp only [c1_some, u1_list, c2_some, u2_list, c3_some, u3_list, b2_some, bd_some, List.length_cons, List.length_nil, List.cons_append, List.nil_append, Nat.zero_add, Nat.reduceAdd, List.set_cons_succ, List.set_cons_zero, a4_own, fold_own, qUn_not, qBin_lss, qBin_neq, qBin_bne, qB_bool, Bool.not_true, cond_false, decide_false, beq_self_eq_true, ne_eq, not_true_eq_false]
  rw [cq_eqBool (n := n + 8) hN w.2.1 b3 rfl rfl]
  simp only [c1_some, u1_list, c2_some, u2_list, c3_some, u3_list, b2_some, bd_some, List.length_cons, List.length_nil, List.cons_append, List.nil_append, Nat.zero_add, Nat.reduceAdd, List.set_cons_succ, List.set_cons_zero, a4_own, fold_own, qUn_not, qBin_lss, qBin_neq, qBin_bne, qB_bool, Bool.not_true, cond_false, decide_false, beq_self_eq_true, ne_eq, not_true_eq_false]
  rw [Q_heldV hN w.1 b1 b2 rfl rfl]
  simp only [c1_some, u1_list, c2_some, u2_list, c3_some, u3_list, b2_some, bd_some, List.length_cons, List.length_nil, List.cons_append, List.nil_append, Nat.zero_add, Nat.reduceAdd, List.set_cons_succ, List.set_cons_zero, a4_own, fold_own, hk2, qUn_not, qBin_lss, qBin_neq, qBin_bne, qB_bool, Bool.not_true, cond_false, decide_false, beq_self_eq_true, ne_eq, not_true_eq_false]
  rw [Q_heldB hN w.2.1.length b3 (1 + w.1.base.length + 4 * w.1.log.length) (by omega) (by omega) rfl]
  simp only [c1_some, u1_list, c2_some, u2_list, c3_some, u3_list, b2_some, bd_some, List.length_cons, List.length_nil, List.cons_append, List.nil_append, Nat.zero_add, Nat.reduceAdd, List.set_cons_succ, List.set_cons_zero, a4_own, fold_own, hk3, qUn_not, qBin_lss, qBin_neq, qBin_bne, qB_bool, Bool.not_true, cond_false, decide_false, beq_self_eq_true, ne_eq, not_true_eq_false]
  exact ⟨_, rfl⟩
end
end Go.Lg.Pv.Q
namespace Go.Proofs.Ytkamejfgfcbpaaa.fnExactPlayVolume
open Go.ChangeShapes Go.WideShapes Go.ChangeAt Go.RowKit
open Go.ChangeMaps (open_string shut_string)
open Go.Lg Go.Lg.Pv Go.Lg.Pv.Q
set_option linter.unusedVariables false
set_option linter.unusedSimpArgs false
set_option maxRecDepth 100000
theorem own : ownKnob Try.prog.godebug = Option.none := by kernel_rfl
theorem laidOut : laidOutB Try.prog = true := by kernel_rfl
/-- VolOp, as it comes in -/
structure VOpK where
  r : Pv.Q.VOp
instance : Enc VOpK where
  enc z := [.int .i64 z.r.kind, .int .i64 z.r.loc, .int .i64 z.r.long, .string z.r.data, .int .i64 z.r.keep]
  good z := z.r.ok
  esz := 5
  eagg := true
  epos := by decide
  esc h := by cases h
  elen _ := rfl
  eones _ := fun v hv => by simp at hv; rcases hv with rfl | rfl | rfl | rfl | rfl <;> rfl
  edflt := ⟨⟨0, 0, 0, ⟨#[]⟩, 0⟩⟩
  egood := ⟨by constructor <;> decide, by constructor <;> decide, by constructor <;> decide, by decide, by constructor <;> decide⟩
theorem elem_78 {H : Type} {enc : TypeId × Value → H} {w : World} {base : Nat} {spare : Nat → Bool} {held : Bool} (fuel : Nat) (cs : List Value) (x : DataW H × List MemPlace)
    (h : DataW.trod enc Try.prog w base spare held fuel 78 cs = some x) : ∃ y : VOpK, cs = Enc.enc y ∧ Enc.good y := by
  obtain ⟨xs, n, rfl, _, hl, hx, hf⟩ := DataW.trod_struct Try.underlying78 h
  have hc : Try.prog.cellsOf 78 = 5 := by kernel_rfl
  rw [hc] at hl
  match cs, hl with
  | [ce0, ce1, ce2, ce3, ce4], _ =>
    have f0 : DataW.trod enc Try.prog w base spare held n 3 (([ce0, ce1, ce2, ce3, ce4].drop 0).take (Try.prog.cellsOf 3)) = xs[0]? := hf 0 _ rfl
    rw [show Try.prog.cellsOf 3 = 1 from by kernel_rfl, List.getElem?_eq_getElem (by rw [hx]; decide)] at f0
    have f1 : DataW.trod enc Try.prog w base spare held n 3 (([ce0, ce1, ce2, ce3, ce4].drop 1).take (Try.prog.cellsOf 3)) = xs[1]? := hf 1 _ rfl
    rw [show Try.prog.cellsOf 3 = 1 from by kernel_rfl, List.getElem?_eq_getElem (by rw [hx]; decide)] at f1
    have f2 : DataW.trod enc Try.prog w base spare held n 3 (([ce0, ce1, ce2, ce3, ce4].drop 2).take (Try.prog.cellsOf 3)) = xs[2]? := hf 2 _ rfl
    rw [show Try.prog.cellsOf 3 = 1 from by kernel_rfl, List.getElem?_eq_getElem (by rw [hx]; decide)] at f2
    have f3 : DataW.trod enc Try.prog w base spare held n 9 (([ce0, ce1, ce2, ce3, ce4].drop 3).take (Try.prog.cellsOf 9)) = xs[3]? := hf 3 _ rfl
    rw [show Try.prog.cellsOf 9 = 1 from by kernel_rfl, List.getElem?_eq_getElem (by rw [hx]; decide)] at f3
    have f4 : DataW.trod enc Try.prog w base spare held n 3 (([ce0, ce1, ce2, ce3, ce4].drop 4).take (Try.prog.cellsOf 3)) = xs[4]? := hf 4 _ rfl
    rw [show Try.prog.cellsOf 3 = 1 from by kernel_rfl, List.getElem?_eq_getElem (by rw [hx]; decide)] at f4
    obtain ⟨m0, e0, _, g0⟩ := DataW.trod_int Try.underlying3 f0
    have e0' : [ce0] = [.int .i64 m0] := e0
    cases e0'
    obtain ⟨m1, e1, _, g1⟩ := DataW.trod_int Try.underlying3 f1
    have e1' : [ce1] = [.int .i64 m1] := e1
    cases e1'
    obtain ⟨m2, e2, _, g2⟩ := DataW.trod_int Try.underlying3 f2
    have e2' : [ce2] = [.int .i64 m2] := e2
    cases e2'
    obtain ⟨m3, e3, _, g3⟩ := DataW.trod_string Try.underlying9 f3
    have e3' : [ce3] = [.string m3] := e3
    cases e3'
    obtain ⟨m4, e4, _, g4⟩ := DataW.trod_int Try.underlying3 f4
    have e4' : [ce4] = [.int .i64 m4] := e4
    cases e4'
    exact ⟨⟨⟨m0, m1, m2, m3, m4⟩⟩, rfl, ⟨wf_inI g0, wf_inI g1, wf_inI g2, len_str g3, wf_inI g4⟩⟩
theorem open0 {H : Type} {enc : TypeId × Value → H} {spare : Nat → Bool} {held : Bool} {base base2 : Nat} (w : World) (v : Value) {d : DataW H} {p : List MemPlace} (hv : Value.okWide Try.prog w .any base2 82 v) (h : DataW.Trod enc Try.prog w base spare held 82 v d p) :
    ∃ l : List Pv.Q.VOp, (∀ y ∈ l, y.ok) ∧ (l.length : Int) ≤ 9223372036854775807 ∧ OpensA w v (.sl shVOp (l.map VOp.enc)) := by
  obtain ⟨fuel, hf⟩ := h
  simp only [Value.okWide, Try.underlying82] at hv
  cases v <;> try (simp [Cell.okWide, Try.underlying82, Cell.ok] at hv; done)
  rename_i sa sn sc
  obtain ⟨z0, gz0, lz0, op0⟩ := opens_list (α := VOpK) (e := 78) elem_78 (fun y c hc => by
      simp only [Enc.enc, List.mem_cons, List.not_mem_nil, or_false] at hc
      rcases hc with rfl | rfl | rfl | rfl | rfl <;> rfl) (fun y c hc => by
      simp only [Enc.enc, List.mem_cons, List.not_mem_nil, or_false] at hc
      rcases hc with rfl | rfl | rfl | rfl | rfl <;> rfl) (by kernel_rfl) Try.underlying82 (f := fun x => x.r.enc) (sh := shVOp) (fun x => rfl) rfl hf (spot_ok Try.underlying82 hv)
  have hm0 : z0.map (fun x => x.r.enc) = (z0.map (fun x => x.r)).map VOp.enc := by rw [List.map_map]; rfl
  rw [hm0] at op0
  have gz0' : ∀ y ∈ z0.map (fun x => x.r), y.ok := fun y hy => by
    obtain ⟨x, hx, rfl⟩ := List.mem_map.1 hy
    exact gz0 x hx
  have lz0' : ((z0.map (fun x => x.r)).length : Int) ≤ 9223372036854775807 := by rw [List.length_map]; exact lz0
  generalize z0.map (fun x => x.r) = y0 at op0 gz0' lz0'
  exact ⟨y0, gz0', lz0', op0.one⟩
theorem walk {H : Type} {enc : TypeId × Value → H} {spare : Nat → Bool} {held : Bool} {base base2 : Nat} (w : World) (v0 : Value) {d0 : DataW H} {p0 : List MemPlace} (hv0 : Value.okWide Try.prog w .any base2 82 v0) (h0 : DataW.Trod enc Try.prog w base spare held 82 v0 d0 p0) :
    Calls Try.prog 9 #[v0] w fun e w' => e = .returned (.bool true) ∧ Below w.heap.size w w' := by
  obtain ⟨b0, ok0, len0, op0⟩ := open0 w v0 hv0 h0
  exact law_open envE eqE (goodOf (tis := tis) rfl (by kernel_rfl)) clOk (.cons op0 (.nil)) (law_play (N := 4294967296) (n := 0) (by decide) b0 ok0 len0)
theorem lifted (os : Os) (started : os.Started) (H : Type) (enc : TypeId × Value → H) :
    ReturnsInHanded {} Try.checked os 9 .any (Rows.fnExactPlayVolumeSpec.pre6 enc Try.prog Try.f9 Rows.fnExactPlayVolumeRow.domain false) (Rows.fnExactPlayVolumeSpec.post enc Try.prog Try.f9 false true false false) := by
  refine returnsInHanded_of_change_sized (C := Try.checked) own started (by kernel_rfl) Try.func9
    (ChangeSpec.witness6 (enc := enc) (C := Try.checked) false ⟨#[], #[.slice Option.none 0 0], []⟩ 8 (by kernel_rfl) (by kernel_rfl) (by kernel_rfl) (by kernel_rfl)) ?_
  intro W base args ds gs before hval0 hW hcnd hsz0 _
  have hval : ∀ (j : Nat) t v, Try.f9.params[j]? = some t → args[j]? = some v → Value.okWide Try.prog W .any base t v := hval0
  have hW' := hW
  obtain ⟨p, q, hA0, hV, rfl, hfz, hnd⟩ := hW
  have hA : DataW.TrodAll enc Try.prog W 0 (fun _ => true) true Try.f9.params.toList args.toList ds p := hA0
  rw [Try.params9] at hA hval
  obtain ⟨v0, vs0, d0, ds0, p0, q0, hargs, rfl, rfl, h0, r0⟩ := trodAll_cons hA
  obtain ⟨rfl, rfl, rfl⟩ := trodAll_nil r0
  obtain rfl : args = #[v0] := by cases args; simp_all
  obtain ⟨rfl, rfl⟩ := trodVars_none hV
  have k0 := h0
  have lt0 : ∀ x ∈ p0, x.block < W.heap.size := by obtain ⟨m, hm⟩ := k0; exact DataW.trod_lt m _ _ _ hm
  refine (walk W v0 (hval 0 82 v0 rfl rfl) h0).mono fun e W' ⟨he, bel⟩ => ?_
  subst he
  exact ⟨_, rfl, _, _, _, [], _, [], hW', trodAll_mk1 (shut_bool Try.underlying4 _), (trodAll_cons_mk (Below.trod laidOut (by kernel_rfl) (of_decide_eq_true (by kernel_rfl)) k0 bel lt0) trodAll_mk0), rfl, bel.frame _, fun h => by cases h⟩
theorem over : Rows.fnExactPlayVolumeRow.holds Try.pinned (OpenSpec.ofChange Rows.fnExactPlayVolumeSpec) :=
  OpenClaim.holds_of_wide 9 Try.f9 rfl rfl rfl rfl rfl rfl rfl ⟨rfl, rfl, rfl, rfl, rfl⟩ rfl rfl rfl rfl rfl (by kernel_rfl) Try.func9 (by kernel_rfl)
    (of_decide_eq_true (by kernel_rfl)) (by unfold Func.isWrapper; first | (rw [if_pos (by decide +kernel)]; kernel_rfl) | (rw [if_neg (by decide +kernel)]; exact ⟨rfl, rfl⟩))
    (fun os started H enc _ => lifted os started H enc)
theorem proved : Rows.FnExactPlayVolumeSaid := over
end Go.Proofs.Ytkamejfgfcbpaaa.fnExactPlayVolume
namespace Go.Proofs.Ytkamejfgfcbpaaa
theorem fnExactPlayVolume_holds : Rows.FnExactPlayVolumeSaid := fnExactPlayVolume.proved
end Go.Proofs.Ytkamejfgfcbpaaa
#print axioms Go.Proofs.Ytkamejfgfcbpaaa.fnExactPlayVolume_holds
