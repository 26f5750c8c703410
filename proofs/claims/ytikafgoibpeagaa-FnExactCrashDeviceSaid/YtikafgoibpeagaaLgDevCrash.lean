/- FnExactCrashDevice returns true whatever device and numbers it is handed, and what it was handed reads behind the call as it read before: no condition. -/
import Derived.Test.YtikafgoibpeagaaRows
import Derived.Test.YtikafgoibpeagaaLgDevQ
import Derived.Test.YtikafgoibpeagaaLgOp
import Derived.WalkKit
import Derived.ProofKit
import Derived.OpenShut
import Derived.ShutString
import Derived.ChangeOld
import Derived.Below
import Derived.SizedLaws
namespace Go.Proofs.Ytikafgoibpeagaa.fnExactCrashDevice
open Go.ChangeShapes Go.WideShapes Go.ChangeAt Go.RowKit
open Go.ChangeMaps (open_string shut_string)
open Go.Lg Go.Lg.S
set_option linter.unusedVariables false
set_option maxRecDepth 100000
theorem own : ownKnob Try.prog.godebug = Option.none := by kernel_rfl
theorem laidOut : laidOutB Try.prog = true := by kernel_rfl

theorem zone_elem {H : Type} {enc : TypeId × Value → H} {w : World} {base : Nat} {spare : Nat → Bool} {held : Bool} (fuel : Nat) (cs : List Value) (x : DataW H × List MemPlace)
    (h : DataW.trod enc Try.prog w base spare held fuel 88 cs = some x) : ∃ y : Zone, cs = Enc.enc y ∧ Enc.good y := by
  obtain ⟨xs, n, rfl, _, hl, hx, hf⟩ := DataW.trod_struct Try.underlying88 h
  have hc : Try.prog.cellsOf 88 = 3 := by kernel_rfl
  have h9 : Try.prog.cellsOf 9 = 1 := by kernel_rfl
  have h3 : Try.prog.cellsOf 3 = 1 := by kernel_rfl
  have h4 : Try.prog.cellsOf 4 = 1 := by kernel_rfl
  rw [hc] at hl
  match cs, hl with
  | [a, b, c], _ =>
    have f0 : DataW.trod enc Try.prog w base spare held n 9 (([a, b, c].drop 0).take (Try.prog.cellsOf 9)) = xs[0]? := hf 0 _ rfl
    have f1 : DataW.trod enc Try.prog w base spare held n 3 (([a, b, c].drop 1).take (Try.prog.cellsOf 3)) = xs[1]? := hf 1 _ rfl
    have f2 : DataW.trod enc Try.prog w base spare held n 4 (([a, b, c].drop 2).take (Try.prog.cellsOf 4)) = xs[2]? := hf 2 _ rfl
    rw [h9, List.getElem?_eq_getElem (by rw [hx]; decide)] at f0
    rw [h3, List.getElem?_eq_getElem (by rw [hx]; decide)] at f1
    rw [h4, List.getElem?_eq_getElem (by rw [hx]; decide)] at f2
    obtain ⟨s, e0, _, g0⟩ := DataW.trod_string Try.underlying9 f0
    obtain ⟨m, e1, _, g1⟩ := DataW.trod_int Try.underlying3 f1
    obtain ⟨q, e2, _⟩ := DataW.trod_bool Try.underlying4 f2
    have e0' : [a] = [.string s] := e0
    have e1' : [b] = [.int .i64 m] := e1
    have e2' : [c] = [.bool q] := e2
    cases e0'
    cases e1'
    cases e2'
    have k0 : s.size ≤ 9223372036854775807 := by
      have : maxLen ≤ 9223372036854775807 := by decide
      omega
    have k1 : inI m := by
      simp only [Lit.wf, IntKind.min, IntKind.max, IntKind.signed, IntKind.bits] at g1
      simp at g1
      constructor <;> omega
    exact ⟨⟨s, m, q⟩, rfl, k0, k1⟩

theorem walk {H : Type} {enc : TypeId × Value → H} {spare : Nat → Bool} {held : Bool} {base base2 : Nat} (w : World) (v0 v1 : Value) {d d2 : DataW H} {p pp : List MemPlace} (hvv : Value.okWide Try.prog w .any base2 38 v1) (hh : DataW.Trod enc Try.prog w base spare held 38 v1 d2 pp) (hv : Value.okWide Try.prog w .any base2 24 v0) (h : DataW.Trod enc Try.prog w base spare held 24 v0 d p) :
    Calls Try.prog 5 #[v0, v1] w fun e w' => e = .returned (.bool true) ∧ Below w.heap.size w w' := by
  obtain ⟨fuel, hf⟩ := h
  simp only [Value.okWide, Try.underlying24] at hv
  obtain ⟨cs, rfl, hcs, ts, hts, _, hrow⟩ := hv
  have hc : Try.prog.cellsOf 24 = 1 := by kernel_rfl
  have h22 : Try.prog.cellsOf 22 = 1 := by kernel_rfl
  have hct : Try.prog.cellTypes Try.prog.depth 24 = some [22] := by kernel_rfl
  rw [hct] at hts; cases hts
  rw [hc] at hcs
  obtain ⟨a, rfl⟩ : ∃ a, cs = #[a] := by
    obtain ⟨l⟩ := cs
    match l, hcs with
    | [a], _ => exact ⟨a, rfl⟩
  obtain ⟨xs, n, rfl, _, _, hx, hff⟩ := DataW.trod_struct Try.underlying24 hf
  have f0 : DataW.trod enc Try.prog w base spare held n 22 (([a].drop 0).take (Try.prog.cellsOf 22)) = xs[0]? := hff 0 _ rfl
  rw [h22, List.getElem?_eq_getElem (by rw [hx]; decide)] at f0
  have f0 : DataW.trod enc Try.prog w base spare held n 22 [a] = some _ := f0
  obtain ⟨u, hu, hcell⟩ := hrow 0 a rfl
  simp at hu; subst hu
  obtain ⟨v', zs, σ, π, v, hv1, hr, hro, _, _, hvr, hrd, hlen⟩ := open_flat (α := Zone) (e := 88) zone_elem (fun y c hc => by
      simp only [Enc.enc, List.mem_cons, List.not_mem_nil, or_false] at hc
      rcases hc with rfl | rfl | rfl <;> rfl) (by kernel_rfl) Try.underlying22 f0 (fun ad n c he => by
      cases he
      simp only [Cell.okWide, Try.underlying22, Cell.ok] at hcell
      obtain ⟨_, _, _, hsp, row, cells, hshape, _⟩ := hcell
      refine ⟨hsp, ?_⟩
      unfold World.shape? at hshape
      rcases Nat.lt_or_ge ad.block w.heap.size with h' | h'
      · exact h'
      · rw [Array.getElem?_eq_none h'] at hshape; cases hshape) (HRel.empty w) ReadOnly.empty
  cases hv1
  obtain ⟨fuel2, hf2⟩ := hh
  simp only [Value.okWide, Try.underlying38] at hvv
  obtain ⟨ai, ni, ci, rfl⟩ : ∃ ai ni ci, v1 = .slice ai ni ci := by
    cases v1 <;> simp_all [Cell.okWide, Cell.ok, Try.underlying38]
  obtain ⟨v2', ks, σ2, π2, v2, hv2, hr2, hro2, hext, hmore, hvr2, hrd2, hlen2⟩ := open_flat (α := Int) (e := 3) (t := 38) (fun fuel cs x hh => by
      obtain ⟨m, e1, _, g1⟩ := DataW.trod_int Try.underlying3 hh
      subst e1
      refine ⟨m, rfl, ?_⟩
      simp only [Lit.wf, IntKind.min, IntKind.max, IntKind.signed, IntKind.bits] at g1
      simp at g1
      show inI m
      constructor <;> omega) (fun y c hc => by
      simp only [Enc.enc, List.mem_cons, List.not_mem_nil, or_false] at hc
      subst hc; rfl) (by kernel_rfl) Try.underlying38 hf2 (fun ad n c he => by
      cases he
      simp only [Cell.okWide, Try.underlying38, Cell.ok] at hvv
      obtain ⟨_, _, _, hsp, row, cells, hshape, _⟩ := hvv
      refine ⟨hsp, ?_⟩
      unfold World.shape? at hshape
      rcases Nat.lt_or_ge ad.block w.heap.size with h' | h'
      · exact h'
      · rw [Array.getElem?_eq_none h'] at hshape; cases hshape) hr hro
  cases hv2
  obtain ⟨σ', hres⟩ := law5_ok (N := 4294967296) (n := 10) (by decide) (by decide) hr2.mdom (hrd.ext hr.mdom hext) hrd2 hlen hlen2
  refine law_walk_bool envE eqE hres hr2 hro2 (.cons ?_ (.cons hvr2 .nil))
  have hvr := hvr.mono hmore
  exact VR.of_list (l := [v]) (l' := [a]) (.cons hvr .nil) (fun y hy => by
    simp at hy; subst hy
    rcases hrd with ⟨_, rfl | ⟨_, _, rfl⟩⟩ | ⟨_, _, _, _, rfl, _⟩ <;> rfl)

theorem lifted (os : Os) (started : os.Started) (H : Type) (enc : TypeId × Value → H) :
    ReturnsInHanded {} Try.checked os 5 .any (Rows.fnExactCrashDeviceSpec.pre6 enc Try.prog Try.f5 Rows.fnExactCrashDeviceRow.domain false) (Rows.fnExactCrashDeviceSpec.post enc Try.prog Try.f5 false true false false) := by
  refine returnsInHanded_of_change_sized (C := Try.checked) own started (by kernel_rfl) Try.func5
    (ChangeSpec.witness6 (enc := enc) (C := Try.checked) false ⟨#[], #[.agg #[.slice Option.none 0 0], .slice Option.none 0 0], []⟩ 8 (by kernel_rfl) (by kernel_rfl) (by kernel_rfl) (by kernel_rfl)) ?_
  intro W base args ds gs before hval0 hW hcnd hsz0 _
  have hval : ∀ (j : Nat) t v, Try.f5.params[j]? = some t → args[j]? = some v → Value.okWide Try.prog W .any base t v := hval0
  have hW' := hW
  obtain ⟨p, q, hA0, hV, rfl, hfz, hnd⟩ := hW
  have hA : DataW.TrodAll enc Try.prog W 0 (fun _ => true) true Try.f5.params.toList args.toList ds p := hA0
  rw [Try.params5] at hA hval
  obtain ⟨v0, vs0, d0, ds0, p0, q0, hargs, rfl, rfl, h0, r0⟩ := trodAll_cons hA
  obtain ⟨v1, vs1, d1, ds1, p1, q1, rfl, rfl, rfl, h1, r1⟩ := trodAll_cons r0
  obtain ⟨rfl, rfl, rfl⟩ := trodAll_nil r1
  obtain rfl : args = #[v0, v1] := by cases args; simp_all
  obtain ⟨rfl, rfl⟩ := trodVars_none hV
  have k0 := h0
  have k1 := h1
  have lt0 : ∀ x ∈ p0, x.block < W.heap.size := by obtain ⟨m, hm⟩ := k0; exact DataW.trod_lt m _ _ _ hm
  have lt1 : ∀ x ∈ p1, x.block < W.heap.size := by obtain ⟨m, hm⟩ := k1; exact DataW.trod_lt m _ _ _ hm
  refine (walk W v0 v1 (hval 1 38 v1 rfl rfl) h1 (hval 0 24 v0 rfl rfl) h0).mono fun e W' ⟨he, bel⟩ => ?_
  subst he
  exact ⟨_, rfl, _, _, _, [], _, [], hW', trodAll_mk1 (shut_bool Try.underlying4 _), (trodAll_cons_mk (Below.trod laidOut (by kernel_rfl) (of_decide_eq_true (by kernel_rfl)) k0 bel lt0) (trodAll_cons_mk (Below.trod laidOut (by kernel_rfl) (of_decide_eq_true (by kernel_rfl)) k1 bel lt1) trodAll_mk0)), rfl, bel.frame _, fun h => by cases h⟩
theorem over : Rows.fnExactCrashDeviceRow.holds Try.pinned (OpenSpec.ofChange Rows.fnExactCrashDeviceSpec) :=
  OpenClaim.holds_of_wide 5 Try.f5 rfl rfl rfl rfl rfl rfl rfl ⟨rfl, rfl, rfl, rfl, rfl⟩ rfl rfl rfl rfl rfl (by kernel_rfl) Try.func5 (by kernel_rfl)
    (of_decide_eq_true (by kernel_rfl)) (by unfold Func.isWrapper; first | (rw [if_pos (by decide +kernel)]; kernel_rfl) | (rw [if_neg (by decide +kernel)]; exact ⟨rfl, rfl⟩))
    (fun os started H enc _ => lifted os started H enc)
theorem proved : Rows.FnExactCrashDeviceSaid := over
end Go.Proofs.Ytikafgoibpeagaa.fnExactCrashDevice
namespace Go.Proofs.Ytikafgoibpeagaa
theorem fnExactCrashDevice_holds : Rows.FnExactCrashDeviceSaid := fnExactCrashDevice.proved
end Go.Proofs.Ytikafgoibpeagaa
#print axioms Go.Proofs.Ytikafgoibpeagaa.fnExactCrashDevice_holds
