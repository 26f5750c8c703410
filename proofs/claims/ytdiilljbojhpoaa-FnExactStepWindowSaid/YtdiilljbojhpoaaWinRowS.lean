/- FnExactStepWindow returns true whatever window and step it is handed, and what it was handed reads behind the call as it read before: no condition. -/
import Derived.Test.YtdiilljbojhpoaaRows
import Derived.Test.YtdiilljbojhpoaaWinRowSA
import Derived.WalkKit
import Derived.ProofKit
import Derived.OpenShut
import Derived.ShutString
import Derived.ChangeOld
import Derived.Below
import Derived.SizedLaws
namespace Go.Proofs.Ytdiilljbojhpoaa.fnExactStepWindow
open Go.ChangeShapes Go.WideShapes Go.ChangeAt Go.RowKit
open Go.ChangeMaps (open_string shut_string)
open Go.Lg Go.Lg.Pv Go.Lg.Pv.Q
set_option linter.unusedVariables false
set_option linter.unusedSimpArgs false
set_option maxRecDepth 100000
theorem own : ownKnob Try.prog.godebug = Option.none := by kernel_rfl
theorem laidOut : laidOutB Try.prog = true := by kernel_rfl
structure StrK where
  v : ByteArray
instance : Enc StrK where
  enc z := [.string z.v]
  good z := (z.v.size : Int) ≤ 9223372036854775807
  esz := 1
  eagg := false
  epos := by decide
  esc _ := rfl
  elen _ := rfl
  eones _ := fun v hv => by simp at hv; rcases hv with rfl; rfl
  edflt := ⟨⟨#[]⟩⟩
  egood := by decide
theorem elem_9 {H : Type} {enc : TypeId × Value → H} {w : World} {base : Nat} {spare : Nat → Bool} {held : Bool} (fuel : Nat) (cs : List Value) (x : DataW H × List MemPlace)
    (h : DataW.trod enc Try.prog w base spare held fuel 9 cs = some x) : ∃ y : StrK, cs = Enc.enc y ∧ Enc.good y := by
  obtain ⟨m, e, _, g⟩ := DataW.trod_string Try.underlying9 h
  exact ⟨⟨m⟩, e, len_str g⟩
structure BoolK where
  v : Bool
instance : Enc BoolK where
  enc z := [.bool z.v]
  good z := True
  esz := 1
  eagg := false
  epos := by decide
  esc _ := rfl
  elen _ := rfl
  eones _ := fun v hv => by simp at hv; rcases hv with rfl; rfl
  edflt := ⟨false⟩
  egood := trivial
theorem elem_4 {H : Type} {enc : TypeId × Value → H} {w : World} {base : Nat} {spare : Nat → Bool} {held : Bool} (fuel : Nat) (cs : List Value) (x : DataW H × List MemPlace)
    (h : DataW.trod enc Try.prog w base spare held fuel 4 cs = some x) : ∃ y : BoolK, cs = Enc.enc y ∧ Enc.good y := by
  obtain ⟨m, e, _⟩ := DataW.trod_bool Try.underlying4 h
  exact ⟨⟨m⟩, e, trivial⟩
/-- Frame, as it comes in -/
structure FrmK where
  r : Pv.Q.Frm
instance : Enc FrmK where
  enc z := [.bool z.r.back, .int .i64 z.r.no, .string z.r.text]
  good z := z.r.ok
  esz := 3
  eagg := true
  epos := by decide
  esc h := by cases h
  elen _ := rfl
  eones _ := fun v hv => by simp at hv; rcases hv with rfl | rfl | rfl <;> rfl
  edflt := ⟨⟨false, 0, ⟨#[]⟩⟩⟩
  egood := ⟨by constructor <;> decide, by decide⟩
theorem elem_113 {H : Type} {enc : TypeId × Value → H} {w : World} {base : Nat} {spare : Nat → Bool} {held : Bool} (fuel : Nat) (cs : List Value) (x : DataW H × List MemPlace)
    (h : DataW.trod enc Try.prog w base spare held fuel 113 cs = some x) : ∃ y : FrmK, cs = Enc.enc y ∧ Enc.good y := by
  obtain ⟨xs, n, rfl, _, hl, hx, hf⟩ := DataW.trod_struct Try.underlying113 h
  have hc : Try.prog.cellsOf 113 = 3 := by kernel_rfl
  rw [hc] at hl
  match cs, hl with
  | [ce0, ce1, ce2], _ =>
    have f0 : DataW.trod enc Try.prog w base spare held n 4 (([ce0, ce1, ce2].drop 0).take (Try.prog.cellsOf 4)) = xs[0]? := hf 0 _ rfl
    rw [show Try.prog.cellsOf 4 = 1 from by kernel_rfl, List.getElem?_eq_getElem (by rw [hx]; decide)] at f0
    have f1 : DataW.trod enc Try.prog w base spare held n 3 (([ce0, ce1, ce2].drop 1).take (Try.prog.cellsOf 3)) = xs[1]? := hf 1 _ rfl
    rw [show Try.prog.cellsOf 3 = 1 from by kernel_rfl, List.getElem?_eq_getElem (by rw [hx]; decide)] at f1
    have f2 : DataW.trod enc Try.prog w base spare held n 9 (([ce0, ce1, ce2].drop 2).take (Try.prog.cellsOf 9)) = xs[2]? := hf 2 _ rfl
    rw [show Try.prog.cellsOf 9 = 1 from by kernel_rfl, List.getElem?_eq_getElem (by rw [hx]; decide)] at f2
    obtain ⟨m0, e0, _⟩ := DataW.trod_bool Try.underlying4 f0
    have e0' : [ce0] = [.bool m0] := e0
    cases e0'
    obtain ⟨m1, e1, _, g1⟩ := DataW.trod_int Try.underlying3 f1
    have e1' : [ce1] = [.int .i64 m1] := e1
    cases e1'
    obtain ⟨m2, e2, _, g2⟩ := DataW.trod_string Try.underlying9 f2
    have e2' : [ce2] = [.string m2] := e2
    cases e2'
    exact ⟨⟨⟨m0, m1, m2⟩⟩, rfl, ⟨wf_inI g1, len_str g2⟩⟩
theorem open0 {H : Type} {enc : TypeId × Value → H} {spare : Nat → Bool} {held : Bool} {base base2 : Nat} (w : World) (v : Value) {d : DataW H} {p : List MemPlace} (hv : Value.okWide Try.prog w .any base2 69 v) (h : DataW.Trod enc Try.prog w base spare held 69 v d p) :
    ∃ a : Pv.Q.Win, a.ok ∧ OpensA w v a.enc := by
  obtain ⟨fuel, hf⟩ := h
  simp only [Value.okWide, Try.underlying69] at hv
  obtain ⟨cs, rfl, hcs, ts, hts, _, hrow⟩ := hv
  have hc : Try.prog.cellsOf 69 = 7 := by kernel_rfl
  have hct : Try.prog.cellTypes Try.prog.depth 69 = some [23, 3, 27, 67, 23, 27, 3] := by kernel_rfl
  rw [hct] at hts; cases hts
  rw [hc] at hcs
  obtain ⟨ce0, ce1, ce2, ce3, ce4, ce5, ce6, rfl⟩ : ∃ ce0 ce1 ce2 ce3 ce4 ce5 ce6, cs = #[ce0, ce1, ce2, ce3, ce4, ce5, ce6] := by
    obtain ⟨l⟩ := cs
    match l, hcs with
    | [ce0, ce1, ce2, ce3, ce4, ce5, ce6], _ => exact ⟨ce0, ce1, ce2, ce3, ce4, ce5, ce6, rfl⟩
  obtain ⟨xs, n, rfl, _, _, hx, hff⟩ := DataW.trod_struct Try.underlying69 hf
  have f0 : DataW.trod enc Try.prog w base spare held n 23 (([ce0, ce1, ce2, ce3, ce4, ce5, ce6].drop 0).take (Try.prog.cellsOf 23)) = xs[0]? := hff 0 _ rfl
  rw [show Try.prog.cellsOf 23 = 1 from by kernel_rfl, List.getElem?_eq_getElem (by rw [hx]; decide)] at f0
  have f1 : DataW.trod enc Try.prog w base spare held n 3 (([ce0, ce1, ce2, ce3, ce4, ce5, ce6].drop 1).take (Try.prog.cellsOf 3)) = xs[1]? := hff 1 _ rfl
  rw [show Try.prog.cellsOf 3 = 1 from by kernel_rfl, List.getElem?_eq_getElem (by rw [hx]; decide)] at f1
  have f2 : DataW.trod enc Try.prog w base spare held n 27 (([ce0, ce1, ce2, ce3, ce4, ce5, ce6].drop 2).take (Try.prog.cellsOf 27)) = xs[2]? := hff 2 _ rfl
  rw [show Try.prog.cellsOf 27 = 1 from by kernel_rfl, List.getElem?_eq_getElem (by rw [hx]; decide)] at f2
  have f3 : DataW.trod enc Try.prog w base spare held n 67 (([ce0, ce1, ce2, ce3, ce4, ce5, ce6].drop 3).take (Try.prog.cellsOf 67)) = xs[3]? := hff 3 _ rfl
  rw [show Try.prog.cellsOf 67 = 1 from by kernel_rfl, List.getElem?_eq_getElem (by rw [hx]; decide)] at f3
  have f4 : DataW.trod enc Try.prog w base spare held n 23 (([ce0, ce1, ce2, ce3, ce4, ce5, ce6].drop 4).take (Try.prog.cellsOf 23)) = xs[4]? := hff 4 _ rfl
  rw [show Try.prog.cellsOf 23 = 1 from by kernel_rfl, List.getElem?_eq_getElem (by rw [hx]; decide)] at f4
  have f5 : DataW.trod enc Try.prog w base spare held n 27 (([ce0, ce1, ce2, ce3, ce4, ce5, ce6].drop 5).take (Try.prog.cellsOf 27)) = xs[5]? := hff 5 _ rfl
  rw [show Try.prog.cellsOf 27 = 1 from by kernel_rfl, List.getElem?_eq_getElem (by rw [hx]; decide)] at f5
  have f6 : DataW.trod enc Try.prog w base spare held n 3 (([ce0, ce1, ce2, ce3, ce4, ce5, ce6].drop 6).take (Try.prog.cellsOf 3)) = xs[6]? := hff 6 _ rfl
  rw [show Try.prog.cellsOf 3 = 1 from by kernel_rfl, List.getElem?_eq_getElem (by rw [hx]; decide)] at f6
  obtain ⟨m1, e1, _, g1⟩ := DataW.trod_int Try.underlying3 f1
  have e1' : [ce1] = [.int .i64 m1] := e1
  cases e1'
  obtain ⟨m6, e6, _, g6⟩ := DataW.trod_int Try.underlying3 f6
  have e6' : [ce6] = [.int .i64 m6] := e6
  cases e6'
  have f0 : DataW.trod enc Try.prog w base spare held n 23 [ce0] = some _ := f0
  obtain ⟨u0, hu0, hcell0⟩ := hrow 0 ce0 rfl
  simp at hu0; subst hu0
  obtain ⟨z0, gz0, lz0, op0⟩ := opens_list (α := StrK) (e := 9) elem_9 (fun y c hc => by
      simp only [Enc.enc, List.mem_cons, List.not_mem_nil, or_false] at hc
      rcases hc with rfl <;> rfl) (fun y c hc => by
      simp only [Enc.enc, List.mem_cons, List.not_mem_nil, or_false] at hc
      rcases hc with rfl <;> rfl) (by kernel_rfl) Try.underlying23 (f := fun x => DV.str x.v) (sh := [.sc]) (fun x => rfl) rfl f0 (spot_ok Try.underlying23 hcell0)
  have hm0 : z0.map (fun x => DV.str x.v) = (z0.map (fun x => x.v)).map DV.str := by rw [List.map_map]; rfl
  rw [hm0] at op0
  have gz0' : ∀ y ∈ z0.map (fun x => x.v), (y.size : Int) ≤ 9223372036854775807 := fun y hy => by
    obtain ⟨x, hx, rfl⟩ := List.mem_map.1 hy
    exact gz0 x hx
  have lz0' : ((z0.map (fun x => x.v)).length : Int) ≤ 9223372036854775807 := by rw [List.length_map]; exact lz0
  generalize z0.map (fun x => x.v) = y0 at op0 gz0' lz0'
  have f2 : DataW.trod enc Try.prog w base spare held n 27 [ce2] = some _ := f2
  obtain ⟨u2, hu2, hcell2⟩ := hrow 2 ce2 rfl
  simp at hu2; subst hu2
  obtain ⟨z2, gz2, lz2, op2⟩ := opens_list (α := BoolK) (e := 4) elem_4 (fun y c hc => by
      simp only [Enc.enc, List.mem_cons, List.not_mem_nil, or_false] at hc
      rcases hc with rfl <;> rfl) (fun y c hc => by
      simp only [Enc.enc, List.mem_cons, List.not_mem_nil, or_false] at hc
      rcases hc with rfl <;> rfl) (by kernel_rfl) Try.underlying27 (f := fun x => DV.bool x.v) (sh := [.sc]) (fun x => rfl) rfl f2 (spot_ok Try.underlying27 hcell2)
  have hm2 : z2.map (fun x => DV.bool x.v) = (z2.map (fun x => x.v)).map DV.bool := by rw [List.map_map]; rfl
  rw [hm2] at op2
  have gz2' : ∀ y ∈ z2.map (fun x => x.v), True := fun y hy => by
    obtain ⟨x, hx, rfl⟩ := List.mem_map.1 hy
    exact gz2 x hx
  have lz2' : ((z2.map (fun x => x.v)).length : Int) ≤ 9223372036854775807 := by rw [List.length_map]; exact lz2
  generalize z2.map (fun x => x.v) = y2 at op2 gz2' lz2'
  have f3 : DataW.trod enc Try.prog w base spare held n 67 [ce3] = some _ := f3
  obtain ⟨u3, hu3, hcell3⟩ := hrow 3 ce3 rfl
  simp at hu3; subst hu3
  obtain ⟨z3, gz3, lz3, op3⟩ := opens_list (α := FrmK) (e := 113) elem_113 (fun y c hc => by
      simp only [Enc.enc, List.mem_cons, List.not_mem_nil, or_false] at hc
      rcases hc with rfl | rfl | rfl <;> rfl) (fun y c hc => by
      simp only [Enc.enc, List.mem_cons, List.not_mem_nil, or_false] at hc
      rcases hc with rfl | rfl | rfl <;> rfl) (by kernel_rfl) Try.underlying67 (f := fun x => x.r.enc) (sh := shFrm) (fun x => rfl) rfl f3 (spot_ok Try.underlying67 hcell3)
  have hm3 : z3.map (fun x => x.r.enc) = (z3.map (fun x => x.r)).map Frm.enc := by rw [List.map_map]; rfl
  rw [hm3] at op3
  have gz3' : ∀ y ∈ z3.map (fun x => x.r), y.ok := fun y hy => by
    obtain ⟨x, hx, rfl⟩ := List.mem_map.1 hy
    exact gz3 x hx
  have lz3' : ((z3.map (fun x => x.r)).length : Int) ≤ 9223372036854775807 := by rw [List.length_map]; exact lz3
  generalize z3.map (fun x => x.r) = y3 at op3 gz3' lz3'
  have f4 : DataW.trod enc Try.prog w base spare held n 23 [ce4] = some _ := f4
  obtain ⟨u4, hu4, hcell4⟩ := hrow 4 ce4 rfl
  simp at hu4; subst hu4
  obtain ⟨z4, gz4, lz4, op4⟩ := opens_list (α := StrK) (e := 9) elem_9 (fun y c hc => by
      simp only [Enc.enc, List.mem_cons, List.not_mem_nil, or_false] at hc
      rcases hc with rfl <;> rfl) (fun y c hc => by
      simp only [Enc.enc, List.mem_cons, List.not_mem_nil, or_false] at hc
      rcases hc with rfl <;> rfl) (by kernel_rfl) Try.underlying23 (f := fun x => DV.str x.v) (sh := [.sc]) (fun x => rfl) rfl f4 (spot_ok Try.underlying23 hcell4)
  have hm4 : z4.map (fun x => DV.str x.v) = (z4.map (fun x => x.v)).map DV.str := by rw [List.map_map]; rfl
  rw [hm4] at op4
  have gz4' : ∀ y ∈ z4.map (fun x => x.v), (y.size : Int) ≤ 9223372036854775807 := fun y hy => by
    obtain ⟨x, hx, rfl⟩ := List.mem_map.1 hy
    exact gz4 x hx
  have lz4' : ((z4.map (fun x => x.v)).length : Int) ≤ 9223372036854775807 := by rw [List.length_map]; exact lz4
  generalize z4.map (fun x => x.v) = y4 at op4 gz4' lz4'
  have f5 : DataW.trod enc Try.prog w base spare held n 27 [ce5] = some _ := f5
  obtain ⟨u5, hu5, hcell5⟩ := hrow 5 ce5 rfl
  simp at hu5; subst hu5
  obtain ⟨z5, gz5, lz5, op5⟩ := opens_list (α := BoolK) (e := 4) elem_4 (fun y c hc => by
      simp only [Enc.enc, List.mem_cons, List.not_mem_nil, or_false] at hc
      rcases hc with rfl <;> rfl) (fun y c hc => by
      simp only [Enc.enc, List.mem_cons, List.not_mem_nil, or_false] at hc
      rcases hc with rfl <;> rfl) (by kernel_rfl) Try.underlying27 (f := fun x => DV.bool x.v) (sh := [.sc]) (fun x => rfl) rfl f5 (spot_ok Try.underlying27 hcell5)
  have hm5 : z5.map (fun x => DV.bool x.v) = (z5.map (fun x => x.v)).map DV.bool := by rw [List.map_map]; rfl
  rw [hm5] at op5
  have gz5' : ∀ y ∈ z5.map (fun x => x.v), True := fun y hy => by
    obtain ⟨x, hx, rfl⟩ := List.mem_map.1 hy
    exact gz5 x hx
  have lz5' : ((z5.map (fun x => x.v)).length : Int) ≤ 9223372036854775807 := by rw [List.length_map]; exact lz5
  generalize z5.map (fun x => x.v) = y5 at op5 gz5' lz5'
  exact ⟨⟨y0, m1, y2, y3, y4, y5, m6⟩, ⟨⟨gz0', lz0'⟩, wf_inI g1, ⟨gz2', lz2'⟩, ⟨gz3', lz3'⟩, ⟨gz4', lz4'⟩, ⟨gz5', lz5'⟩, wf_inI g6⟩, Opens.agg (Opens.cons (op0) (Opens.cons (Opens.int w .i64 m1) (Opens.cons (op2) (Opens.cons (op3) (Opens.cons (op4) (Opens.cons (op5) (Opens.cons (Opens.int w .i64 m6) (Opens.nil w))))))))⟩
theorem open1 {H : Type} {enc : TypeId × Value → H} {spare : Nat → Bool} {held : Bool} {base base2 : Nat} (w : World) (v : Value) {d : DataW H} {p : List MemPlace} (hv : Value.okWide Try.prog w .any base2 70 v) (h : DataW.Trod enc Try.prog w base spare held 70 v d p) :
    ∃ a : Pv.Q.WStep, a.ok ∧ OpensA w v a.enc := by
  obtain ⟨fuel, hf⟩ := h
  simp only [Value.okWide, Try.underlying70] at hv
  obtain ⟨cs, rfl, hcs, ts, hts, _, hrow⟩ := hv
  have hc : Try.prog.cellsOf 70 = 2 := by kernel_rfl
  have hct : Try.prog.cellTypes Try.prog.depth 70 = some [3, 3] := by kernel_rfl
  rw [hct] at hts; cases hts
  rw [hc] at hcs
  obtain ⟨ce0, ce1, rfl⟩ : ∃ ce0 ce1, cs = #[ce0, ce1] := by
    obtain ⟨l⟩ := cs
    match l, hcs with
    | [ce0, ce1], _ => exact ⟨ce0, ce1, rfl⟩
  obtain ⟨xs, n, rfl, _, _, hx, hff⟩ := DataW.trod_struct Try.underlying70 hf
  have f0 : DataW.trod enc Try.prog w base spare held n 3 (([ce0, ce1].drop 0).take (Try.prog.cellsOf 3)) = xs[0]? := hff 0 _ rfl
  rw [show Try.prog.cellsOf 3 = 1 from by kernel_rfl, List.getElem?_eq_getElem (by rw [hx]; decide)] at f0
  have f1 : DataW.trod enc Try.prog w base spare held n 3 (([ce0, ce1].drop 1).take (Try.prog.cellsOf 3)) = xs[1]? := hff 1 _ rfl
  rw [show Try.prog.cellsOf 3 = 1 from by kernel_rfl, List.getElem?_eq_getElem (by rw [hx]; decide)] at f1
  obtain ⟨m0, e0, _, g0⟩ := DataW.trod_int Try.underlying3 f0
  have e0' : [ce0] = [.int .i64 m0] := e0
  cases e0'
  obtain ⟨m1, e1, _, g1⟩ := DataW.trod_int Try.underlying3 f1
  have e1' : [ce1] = [.int .i64 m1] := e1
  cases e1'
  exact ⟨⟨m0, m1⟩, ⟨wf_inI g0, wf_inI g1⟩, Opens.agg (Opens.cons (Opens.int w .i64 m0) (Opens.cons (Opens.int w .i64 m1) (Opens.nil w)))⟩
theorem walk {H : Type} {enc : TypeId × Value → H} {spare : Nat → Bool} {held : Bool} {base base2 : Nat} (w : World) (v0 v1 : Value) {d0 : DataW H} {p0 : List MemPlace} {d1 : DataW H} {p1 : List MemPlace} (hv0 : Value.okWide Try.prog w .any base2 69 v0) (h0 : DataW.Trod enc Try.prog w base spare held 69 v0 d0 p0) (hv1 : Value.okWide Try.prog w .any base2 70 v1) (h1 : DataW.Trod enc Try.prog w base spare held 70 v1 d1 p1) :
    Calls Try.prog 6 #[v0, v1] w fun e w' => e = .returned (.bool true) ∧ Below w.heap.size w w' := by
  obtain ⟨b0, ok0, op0⟩ := open0 w v0 hv0 h0
  obtain ⟨b1, ok1, op1⟩ := open1 w v1 hv1 h1
  exact law_open envE eqE (goodOf (tis := tis) rfl (by kernel_rfl)) clOk (.cons op0 (.cons op1 (.nil))) (law_step (N := 4294967296) (n := 0) (by decide) b0 ok0 b1 ok1)
theorem lifted (os : Os) (started : os.Started) (H : Type) (enc : TypeId × Value → H) :
    ReturnsInHanded {} Try.checked os 6 .any (Rows.fnExactStepWindowSpec.pre6 enc Try.prog Try.f6 Rows.fnExactStepWindowRow.domain false) (Rows.fnExactStepWindowSpec.post enc Try.prog Try.f6 false true false false) := by
  refine returnsInHanded_of_change_sized (C := Try.checked) own started (by kernel_rfl) Try.func6
    (ChangeSpec.witness6 (enc := enc) (C := Try.checked) false ⟨#[], #[.agg #[.slice Option.none 0 0, .int .i64 0, .slice Option.none 0 0, .slice Option.none 0 0, .slice Option.none 0 0, .slice Option.none 0 0, .int .i64 0], .agg #[.int .i64 0, .int .i64 0]], []⟩ 8 (by kernel_rfl) (by kernel_rfl) (by kernel_rfl) (by kernel_rfl)) ?_
  intro W base args ds gs before hval0 hW hcnd hsz0 _
  have hval : ∀ (j : Nat) t v, Try.f6.params[j]? = some t → args[j]? = some v → Value.okWide Try.prog W .any base t v := hval0
  have hW' := hW
  obtain ⟨p, q, hA0, hV, rfl, hfz, hnd⟩ := hW
  have hA : DataW.TrodAll enc Try.prog W 0 (fun _ => true) true Try.f6.params.toList args.toList ds p := hA0
  rw [Try.params6] at hA hval
  obtain ⟨v0, vs0, d0, ds0, p0, q0, hargs, rfl, rfl, h0, r0⟩ := trodAll_cons hA
  obtain ⟨v1, vs1, d1, ds1, p1, q1, rfl, rfl, rfl, h1, r1⟩ := trodAll_cons r0
  obtain ⟨rfl, rfl, rfl⟩ := trodAll_nil r1
  obtain rfl : args = #[v0, v1] := by cases args; simp_all
  obtain ⟨rfl, rfl⟩ := trodVars_none hV
  have k0 := h0
  have lt0 : ∀ x ∈ p0, x.block < W.heap.size := by obtain ⟨m, hm⟩ := k0; exact DataW.trod_lt m _ _ _ hm
  have k1 := h1
  have lt1 : ∀ x ∈ p1, x.block < W.heap.size := by obtain ⟨m, hm⟩ := k1; exact DataW.trod_lt m _ _ _ hm
  refine (walk W v0 v1 (hval 0 69 v0 rfl rfl) h0 (hval 1 70 v1 rfl rfl) h1).mono fun e W' ⟨he, bel⟩ => ?_
  subst he
  exact ⟨_, rfl, _, _, _, [], _, [], hW', trodAll_mk1 (shut_bool Try.underlying4 _), (trodAll_cons_mk (Below.trod laidOut (by kernel_rfl) (of_decide_eq_true (by kernel_rfl)) k0 bel lt0) (trodAll_cons_mk (Below.trod laidOut (by kernel_rfl) (of_decide_eq_true (by kernel_rfl)) k1 bel lt1) trodAll_mk0)), rfl, bel.frame _, fun h => by cases h⟩
theorem over : Rows.fnExactStepWindowRow.holds Try.pinned (OpenSpec.ofChange Rows.fnExactStepWindowSpec) :=
  OpenClaim.holds_of_wide 6 Try.f6 rfl rfl rfl rfl rfl rfl rfl ⟨rfl, rfl, rfl, rfl, rfl⟩ rfl rfl rfl rfl rfl (by kernel_rfl) Try.func6 (by kernel_rfl)
    (of_decide_eq_true (by kernel_rfl)) (by unfold Func.isWrapper; first | (rw [if_pos (by decide +kernel)]; kernel_rfl) | (rw [if_neg (by decide +kernel)]; exact ⟨rfl, rfl⟩))
    (fun os started H enc _ => lifted os started H enc)
theorem proved : Rows.FnExactStepWindowSaid := over
end Go.Proofs.Ytdiilljbojhpoaa.fnExactStepWindow
namespace Go.Proofs.Ytdiilljbojhpoaa
theorem fnExactStepWindow_holds : Rows.FnExactStepWindowSaid := fnExactStepWindow.proved
end Go.Proofs.Ytdiilljbojhpoaa
#print axioms Go.Proofs.Ytdiilljbojhpoaa.fnExactStepWindow_holds
