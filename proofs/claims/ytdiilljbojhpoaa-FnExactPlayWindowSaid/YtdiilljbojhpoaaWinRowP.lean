/- FnExactPlayWindow returns true whatever pieces, size and steps it is handed, and what it was handed reads behind the call as it read before: no condition. -/
import Derived.Test.YtdiilljbojhpoaaWinRowPA
import Derived.Test.YtdiilljbojhpoaaRows
import Derived.WalkKit
import Derived.ProofKit
import Derived.OpenShut
import Derived.ShutString
import Derived.ChangeOld
import Derived.Below
import Derived.SizedLaws
namespace Go.Lg.Pv.Q
open Go Go.Lg Go.Lg.Pv
set_option linter.unusedVariables false
set_option linter.unusedSimpArgs false
set_option maxRecDepth 100000

/-! what was done, as it grows -/
/-- nil, or a block of its own -/
inductive DN (μ : PH) : Nat → DV → List Bool → Prop where
  | nil (k : Nat) : DN μ k .nil []
  | own (k ver n : Nat) (d : List Bool) : bk μ k ver = some ⟨ver, [.sc], d.map eBool, true, false, true⟩ → n = d.length → DN μ k (.own k ver 0 n n false) d
theorem bsB (μ : PH) (b : Bool) : qBS μ true [.sc] false [.bool false] 1 1 [(0, .bool b)] = some (.sl [.sc] [.bool b], μ) := rfl
theorem DN.app {μ : PH} {k : Nat} {x : DV} {d : List Bool} (h : DN μ k x d) (hk : x = .nil → k = μ.length) (hd : d.length ≤ 1000) (b : Bool) :
    ∃ x' μ', qAp μ false [.sc] 1 1 x (.sl [.sc] [.bool b]) = some (x', μ') ∧ DN μ' k x' (d ++ [b]) ∧ x' ≠ .nil ∧ (∀ j, j ≠ k → j < μ.length → μ'[j]? = μ[j]?) ∧ μ.length ≤ μ'.length := by
  cases h with
  | nil =>
    have hk := hk rfl
    subst hk
    refine ⟨.own μ.length 1 0 1 1 false, μ ++ [⟨1, [.sc], [.bool b], true, false, true⟩], rfl, .own _ _ _ _ (by simp [bk]) rfl, by simp, fun j _ hj => by rw [List.getElem?_append_left hj], by simp⟩
  | own ver n _ hb hn =>
    have ha := qAp_up1 (by_ := 1) (z := 1) (sh := [.sc]) (e := .bool b) (c := n) (o := 0) (n := n) hb rfl rfl rfl rfl rfl (by omega) (by decide) (by omega) (by omega)
    refine ⟨_, _, ha, ?_, by simp, fun j hj _ => by rw [List.getElem?_set_ne (fun h => hj h.symm)], by rw [List.length_set]; exact Nat.le_refl _⟩
    have he : (List.take n (List.drop 0 (d.map eBool)) ++ [DV.bool b]) = (d ++ [b]).map eBool := by
      rw [List.drop_zero, List.take_of_length_le (by rw [List.length_map]; omega), List.map_append]; rfl
    show DN (μ.set k ⟨ver + 1, [.sc], List.take n (List.drop 0 (d.map eBool)) ++ [DV.bool b], true, false, true⟩) k _ _
    rw [he]
    exact .own _ _ _ _ (bk_set (b := ⟨ver + 1, [.sc], (d ++ [b]).map eBool, true, false, true⟩) (bk_lt hb) rfl) (by simp [hn])
theorem DN.mono {μ μ' : PH} {k : Nat} {x : DV} {d : List Bool} (h : DN μ k x d) (he : x ≠ .nil → μ'[k]? = μ[k]?) : DN μ' k x d := by
  cases h with
  | nil => exact .nil k
  | own ver n _ hb hn => exact .own _ _ _ _ (by unfold bk at hb ⊢; rw [he (by simp)]; exact hb) hn
theorem DN.lt {μ : PH} {k : Nat} {x : DV} {d : List Bool} (h : DN μ k x d) (hx : x ≠ .nil) : k < μ.length := by
  cases h with
  | nil => exact absurd rfl hx
  | own ver n _ hb _ => exact bk_lt hb
theorem DN.tk {μ : PH} {k : Nat} {x : DV} {d : List Bool} (h : DN μ k x d) : ∃ μ', tkC μ (.sl [.sc]) x = some (.sl [.sc] (d.map eBool), μ') := by
  cases h with
  | nil => exact ⟨μ, rfl⟩
  | own ver n _ hb hn =>
    have t := tk_own (s := .sl [.sc]) (x := false) (c := n) (o := 0) (n := n) hb rfl rfl (e := d.map eBool) (by rw [List.drop_zero]; exact List.take_of_length_le (by rw [List.length_map]; omega)) (eBool_cl d)
    exact ⟨_, t⟩

theorem qMS_n {μ : PH} {sh : List Sh} {agg : Bool} {zero : List DV} {size bytes n : Nat} (hn : (n : Int) * bytes ≤ 140737488355328) (h1 : n ≤ 1048576) (hz : zero.length = size) (hs : sh.length = size) (ha : agg = true ∨ size = 1) (hok : zero.all okC = true) :
    qMS μ sh agg zero size bytes (.int .i64 n) (.int .i64 n) = some (.own μ.length 0 0 n n true, μ ++ [⟨0, sh, List.replicate n (elemD agg (nzL sh zero)), true, false, true⟩]) := by
  simp only [qMS]
  rw [if_pos ⟨by omega, by omega, hn, by omega, hz, hs, ha, hok⟩]
  simp only [Int.toNat_natCast]
def newWin (p : List ByteArray) (size : Int) : Win := ⟨p, size, List.replicate p.length false, [], List.replicate p.length ⟨#[]⟩, List.replicate p.length false, 0⟩
def outN (p : List ByteArray) (size : Int) : Win × Bool := if arePc p = true ∧ 1 ≤ size ∧ size ≤ 12 then (newWin p size, true) else (win0, false)
theorem newWin_ok {p : List ByteArray} {size : Int} (h : arePc p = true ∧ 1 ≤ size ∧ size ≤ 12) : WOk (newWin p size) := by
  have hp : p.length ≤ 12 := by
    have := h.1; unfold arePc at this; simp only [Bool.and_eq_true, decide_eq_true_eq] at this; omega
  exact ⟨by simp [newWin], by simp [newWin], by simp [newWin], by simp only [newWin]; omega, h.2.1, h.2.2, by simp [newWin], fun f hf => by simp [newWin] at hf⟩
/-- the blocks of a new window -/
def nM (n : Nat) (b4 : PB) : PH := [wB wZ, boolB (List.replicate n false), tB 0 (List.replicate n ⟨#[]⟩), boolB (List.replicate n false), b4]
theorem resNew {p : List ByteArray} {size : Int} {v : Nat} {c0 : PB} {rs : List (List Sh)} {tl : List DV} {tl' : List DV} {rs' : List (List Sh)} (hrs : rs = shWin :: rs') (ht : ∀ ν, ∃ ν', resO rs' tl ν = some (tl', ν')) :
    ∃ ν', resO rs (.agg [.own 4 v 0 p.length p.length false, .int .i64 size, .own 1 0 0 p.length p.length true, .own 5 0 0 0 0 false, .own 2 0 0 p.length p.length true, .own 3 0 0 p.length p.length true, .int .i64 0] :: tl)
      [c0, boolB (List.replicate p.length false), tB 0 (List.replicate p.length ⟨#[]⟩), boolB (List.replicate p.length false), tB v p, ⟨0, shFrm, [], true, false, true⟩] = some ((newWin p size).enc :: tl', ν') := by
  subst hrs
  have g0 : bk [c0, boolB (List.replicate p.length false), tB 0 (List.replicate p.length ⟨#[]⟩), boolB (List.replicate p.length false), tB v p, ⟨0, shFrm, [], true, false, true⟩] 4 v = some (tB v p) := by simp [bk, tB]
  have e0 := tk_own (s := .sl [.sc]) (x := false) (c := p.length) g0 rfl rfl (own_all (b := tB v p) (l := p.map DV.str) (n := p.length) rfl (by simp)) (txt_cl p)
  generalize hM : kl [c0, boolB (List.replicate p.length false), tB 0 (List.replicate p.length ⟨#[]⟩), boolB (List.replicate p.length false), tB v p, ⟨0, shFrm, [], true, false, true⟩] 4 = M1 at e0
  have g1 : bk M1 1 0 = some (boolB (List.replicate p.length false)) := by rw [← hM, kl_ne (by decide)]; rfl
  have e1 := tk_own (s := .sl [.sc]) (x := true) (c := p.length) (n := p.length) g1 rfl rfl (own_all (b := boolB (List.replicate p.length false)) (l := (List.replicate p.length false).map eBool) (n := p.length) rfl (by simp)) (eBool_cl _)
  have g2 : bk (kl M1 1) 5 0 = some ⟨0, shFrm, [], true, false, true⟩ := by rw [kl_ne (by decide), ← hM, kl_ne (by decide)]; rfl
  have e2 : tkC (kl M1 1) (.sl shFrm) (.own 5 0 0 0 0 false) = some (.sl shFrm [], kl (kl M1 1) 5) := tk_own (s := .sl shFrm) (x := false) (c := 0) (o := 0) (n := 0) g2 rfl rfl rfl rfl
  have g3 : bk (kl (kl M1 1) 5) 2 0 = some (tB 0 (List.replicate p.length ⟨#[]⟩)) := by rw [kl_ne (by decide), kl_ne (by decide), ← hM, kl_ne (by decide)]; rfl
  have e3 := tk_own (s := .sl [.sc]) (x := true) (c := p.length) (n := p.length) g3 rfl rfl (own_all (b := tB 0 (List.replicate p.length ⟨#[]⟩)) (l := (List.replicate p.length (⟨#[]⟩ : ByteArray)).map DV.str) (n := p.length) rfl (by simp)) (txt_cl _)
  have g4 : bk (kl (kl (kl M1 1) 5) 2) 3 0 = some (boolB (List.replicate p.length false)) := by rw [kl_ne (by decide), kl_ne (by decide), kl_ne (by decide), ← hM, kl_ne (by decide)]; rfl
  have e4 := tk_own (s := .sl [.sc]) (x := true) (c := p.length) (n := p.length) g4 rfl rfl (own_all (b := boolB (List.replicate p.length false)) (l := (List.replicate p.length false).map eBool) (n := p.length) rfl (by simp)) (eBool_cl _)
  have e : ∀ (μ : PH) (s : Sh) (k : IntKind) (a : Int), tkC μ s (.int k a) = some (.int k a, μ) := fun _ _ _ _ => rfl
  obtain ⟨ν', ht⟩ := ht (kl (kl (kl (kl M1 1) 5) 2) 3)
  refine ⟨ν', ?_⟩
  simp only [resO, onS, zipS, List.headD_cons, List.tail_cons, e0, e1, e2, e3, e4, e, Option.bind_some, Option.map_some, ht]
  rfl
theorem mkB (n : Nat) : (⟨0, [.sc], List.replicate n (elemD false (nzL [.sc] [.bool false])), true, false, true⟩ : PB) = boolB (List.replicate n false) := by simp [boolB, elemD, nzL, nz]
theorem mkT (n : Nat) : (⟨0, [.sc], List.replicate n (elemD false (nzL [.sc] [.str ⟨#[]⟩])), true, false, true⟩ : PB) = tB 0 (List.replicate n ⟨#[]⟩) := by simp [tB, elemD, nzL, nz]
theorem bNewO (i0 v0 n0 c0 i1 n1 c1 i2 n2 c2 i3 n3 c3 : Nat) (x0 x1 x2 x3 : Bool) (b : Int) : qBuild [.nil, .int .i64 0, .nil, .nil, .nil, .nil, .int .i64 0] [(0, 1, false), (1, 1, false), (2, 1, false), (3, 1, false), (4, 1, false), (5, 1, false), (6, 1, false)] [(0, .own i0 v0 0 n0 c0 x0), (1, .int .i64 b), (2, .own i1 0 0 n1 c1 x1), (4, .own i2 0 0 n2 c2 x2), (5, .own i3 0 0 n3 c3 x3)] =
    some (.agg [.own i0 v0 0 n0 c0 x0, .int .i64 b, .own i1 0 0 n1 c1 x1, .nil, .own i2 0 0 n2 c2 x2, .own i3 0 0 n3 c3 x3, .int .i64 0]) := rfl
theorem bNewE (i1 n1 c1 i2 n2 c2 i3 n3 c3 : Nat) (x1 x2 x3 : Bool) (b : Int) : qBuild [.nil, .int .i64 0, .nil, .nil, .nil, .nil, .int .i64 0] [(0, 1, false), (1, 1, false), (2, 1, false), (3, 1, false), (4, 1, false), (5, 1, false), (6, 1, false)] [(0, .e0 1), (1, .int .i64 b), (2, .own i1 0 0 n1 c1 x1), (4, .own i2 0 0 n2 c2 x2), (5, .own i3 0 0 n3 c3 x3)] =
    some (.agg [.e0 1, .int .i64 b, .own i1 0 0 n1 c1 x1, .nil, .own i2 0 0 n2 c2 x2, .own i3 0 0 n3 c3 x3, .int .i64 0]) := rfl
theorem stNew (v n : Nat) (size : Int) (b4 : PB) : qSt (nM n b4) 7 (.ptr 0 0 0 0) (.agg [.own 4 v 0 n n false, .int .i64 size, .own 1 0 0 n n true, .nil, .own 2 0 0 n n true, .own 3 0 0 n n true, .int .i64 0]) =
    some [wB [.own 4 v 0 n n false, .int .i64 size, .own 1 0 0 n n true, .sl shFrm [], .own 2 0 0 n n true, .own 3 0 0 n n true, .int .i64 0], boolB (List.replicate n false), tB 0 (List.replicate n ⟨#[]⟩), boolB (List.replicate n false), b4] := rfl
theorem ldNew (v n : Nat) (size : Int) (b1 b2 b3 b4 : PB) : qLd [wB [.own 4 v 0 n n false, .int .i64 size, .own 1 0 0 n n true, .sl shFrm [], .own 2 0 0 n n true, .own 3 0 0 n n true, .int .i64 0], b1, b2, b3, b4] 7 true (.ptr 0 0 0 0) =
    some (.agg [.own 4 v 0 n n false, .int .i64 size, .own 1 0 0 n n true, .own 5 0 0 0 0 false, .own 2 0 0 n n true, .own 3 0 0 n n true, .int .i64 0], [wB [.own 4 v 0 n n false, .int .i64 size, .own 1 0 0 n n true, .own 5 0 0 0 0 false, .own 2 0 0 n n true, .own 3 0 0 n n true, .int .i64 0], b1, b2, b3, b4, ⟨0, shFrm, [], true, false, true⟩]) := rfl
theorem stNew0 (size : Int) (b1 b2 b3 : PB) : qSt [wB wZ, b1, b2, b3] 7 (.ptr 0 0 0 0) (.agg [.e0 1, .int .i64 size, .own 1 0 0 0 0 true, .nil, .own 2 0 0 0 0 true, .own 3 0 0 0 0 true, .int .i64 0]) =
    some [wB [.sl [.sc] [], .int .i64 size, .own 1 0 0 0 0 true, .sl shFrm [], .own 2 0 0 0 0 true, .own 3 0 0 0 0 true, .int .i64 0], b1, b2, b3] := rfl
theorem ldNew0 (size : Int) (b1 b2 b3 : PB) : qLd [wB [.sl [.sc] [], .int .i64 size, .own 1 0 0 0 0 true, .sl shFrm [], .own 2 0 0 0 0 true, .own 3 0 0 0 0 true, .int .i64 0], b1, b2, b3] 7 true (.ptr 0 0 0 0) =
    some (.agg [.own 4 0 0 0 0 false, .int .i64 size, .own 1 0 0 0 0 true, .own 5 0 0 0 0 false, .own 2 0 0 0 0 true, .own 3 0 0 0 0 true, .int .i64 0], [wB [.own 4 0 0 0 0 false, .int .i64 size, .own 1 0 0 0 0 true, .own 5 0 0 0 0 false, .own 2 0 0 0 0 true, .own 3 0 0 0 0 true, .int .i64 0], b1, b2, b3, tB 0 [], ⟨0, shFrm, [], true, false, true⟩]) := rfl
theorem newwI {N n : Nat} (p : List ByteArray) (size : Int) (hp : p.length ≤ 1048576) : run1 S_impl_newWindow (qfn P N (n + 2) n_impl_newWindow) [.sl [.sc] (p.map DV.str), .int .i64 size] = some ([(newWin p size).enc], []) := by
  refine run1_ex rfl rfl rfl ?_
  rw [impl_newWindow_eq]
  unfold P_impl_newWindow
  have m1 := qMS_n (μ := [wB wZ]) (sh := [.sc]) (agg := false) (zero := [.bool false]) (size := 1) (bytes := 1) (n := p.length) (by omega) hp rfl rfl (.inr rfl) rfl
  have m2 := qMS_n (μ := [wB wZ, boolB (List.replicate p.length false)]) (sh := [.sc]) (agg := false) (zero := [.str ⟨#[]⟩]) (size := 1) (bytes := 16) (n := p.length) (by omega) hp rfl rfl (.inr rfl) rfl
  have m3 := qMS_n (μ := [wB wZ, boolB (List.replicate p.length false), tB 0 (List.replicate p.length ⟨#[]⟩)]) (sh := [.sc]) (agg := false) (zero := [.bool false]) (size := 1) (bytes := 1) (n := p.length) (by omega) hp rfl rfl (.inr rfl) rfl
  rw [mkB] at m1 m3
  rw [mkT] at m2
  have cT := cq_clT (N := N) (n := n) p hp [wB wZ, boolB (List.replicate p.length false), tB 0 (List.replicate p.length ⟨#[]⟩), boolB (List.replicate p.length false)]
  have hal := alW []
  simp only [List.length_nil, List.nil_append] at hal
  have s1' := stNew 0 p.length size (tB 0 p)
  unfold nM at s1'
  simp only [hal, b2_some, qLen_sl, List.length_map, bd_some, m1, List.length_cons, List.length_nil, Nat.zero_add, Nat.reduceAdd, List.cons_append, List.nil_append, m2, m3, cT, c1_some, u1_list, bNewO, s1', ldNew]
  obtain ⟨ν', hr⟩ := resNew (p := p) (size := size) (v := 0) (c0 := wB [.own 4 0 0 p.length p.length false, .int .i64 size, .own 1 0 0 p.length p.length true, .own 5 0 0 0 0 false, .own 2 0 0 p.length p.length true, .own 3 0 0 p.length p.length true, .int .i64 0]) (rs := S_impl_newWindow.rs) (tl := []) (tl' := []) (rs' := []) rfl (fun ν => ⟨ν, rfl⟩)
  exact ⟨_, rfl, ν', hr⟩
theorem NewI {N n : Nat} (hN : 4294967296 ≤ N) (p : List ByteArray) (size : Int) (hp : p.length ≤ 1048576) : run1 S_impl_NewWindow (qfn P N (n + 7) n_impl_NewWindow) [.sl [.sc] (p.map DV.str), .int .i64 size] = some ([(outN p size).1.enc, .bool (outN p size).2], []) := by
  have e1 := arePieces_ok (n := n) hN p hp []
  have e2 := cq_sn (μ := []) (args := [.sl [.sc] (p.map DV.str), .int .i64 size]) (s := S_impl_newWindow) rfl (by simp only [sns, S_impl_newWindow, sn_cl _ _ (txts_cl p), snI, Option.bind_some]) (newwI (N := N) (n := n + 4) p size hp) rfl
  rw [adL_w] at e2
  unfold outN
  by_cases h : arePc p = true ∧ 1 ≤ size ∧ size ≤ 12
  · rw [if_pos h]
    have hb : (decide (1 ≤ size) && decide (size ≤ 12)) = true := by simp [h.2]
    obtain ⟨ν', hr⟩ := res2 true (WB.app [] (newWin p size))
    refine run1_of rfl rfl rfl (r := [winOwn 0 (newWin p size), .bool true]) (ν := wM (newWin p size)) ?_ hr
    rw [impl_NewWindow_eq]
    unfold P_impl_NewWindow
    simp only [e1, c1_some, u1_list, h.1, qUn_not, bd_some, qB_bool, Bool.not_true, cond_false, within_ok, hb, e2, a7_winOwn, fold_winOwn, List.length_nil, List.nil_append]
    rfl
  · rw [if_neg h]
    refine run1_of rfl rfl rfl (r := [.agg [.nil, .int .i64 0, .nil, .nil, .nil, .nil, .int .i64 0], .bool false]) (ν := []) ?_ (resW0 _)
    rw [impl_NewWindow_eq]
    unfold P_impl_NewWindow
    by_cases hp1 : arePc p = true
    · have hb : (decide (1 ≤ size) && decide (size ≤ 12)) = false := by
        by_cases g1 : 1 ≤ size <;> by_cases g2 : size ≤ 12 <;> simp [g1, g2]
        exact h ⟨hp1, g1, g2⟩
      simp only [e1, c1_some, u1_list, hp1, qUn_not, bd_some, qB_bool, Bool.not_true, cond_false, within_ok, hb, Bool.not_false, cond_true, bWin0, a7_agg]
    · simp only [e1, c1_some, u1_list, hp1, qUn_not, bd_some, qB_bool, Bool.not_false, cond_true, bWin0, a7_agg]
theorem stZ (b : List PB) : qSt (wB wZ :: b) 7 (.ptr 0 0 0 0) (.agg [.nil, .int .i64 0, .nil, .nil, .nil, .nil, .int .i64 0]) = some (wB wZ :: b) := rfl
theorem NewS {N n : Nat} (hN : 4294967296 ≤ N) (p : List ByteArray) (size : Int) (hp : p.length ≤ 1048576) : run1 S_spec_NewWindow (qfn P N (n + 7) n_spec_NewWindow) [.sl [.sc] (p.map DV.str), .int .i64 size] = some ([(outN p size).1.enc, .bool (outN p size).2], []) := by
  have e1 := l9Pieces_ok (n := n + 5) hN p hp [wB wZ]
  have hal := alW []
  simp only [List.length_nil, List.nil_append] at hal
  have lz : ∃ μ', qLd [wB wZ] 7 true (.ptr 0 0 0 0) = some (.agg [.own 1 0 0 0 0 false, .int .i64 0, .own 2 0 0 0 0 false, .own 3 0 0 0 0 false, .own 4 0 0 0 0 false, .own 5 0 0 0 0 false, .int .i64 0], μ') ∧ ∃ ν', resO S_spec_NewWindow.rs [.agg [.own 1 0 0 0 0 false, .int .i64 0, .own 2 0 0 0 0 false, .own 3 0 0 0 0 false, .own 4 0 0 0 0 false, .own 5 0 0 0 0 false, .int .i64 0], .bool false] μ' = some ([win0.enc, .bool false], ν') := ⟨_, rfl, _, rfl⟩
  obtain ⟨μz, lz1, νz, lz2⟩ := lz
  refine run1_ex rfl rfl rfl ?_
  rw [spec_NewWindow_eq]
  unfold P_spec_NewWindow outN
  simp only [hal, b2_some, qLen_sl, List.length_map, bd_some, e1, c1_some, u1_list, qUn_not, qB_bool, l1In_ok]
  by_cases h : arePc p = true ∧ 1 ≤ size ∧ size ≤ 12
  · rw [if_pos h]
    have hb : (decide (1 ≤ size) && decide (size ≤ 12)) = true := by simp [h.2]
    have m1 := qMS_n (μ := [wB wZ]) (sh := [.sc]) (agg := false) (zero := [.bool false]) (size := 1) (bytes := 1) (n := p.length) (by omega) hp rfl rfl (.inr rfl) rfl
    have m2 := qMS_n (μ := [wB wZ, boolB (List.replicate p.length false)]) (sh := [.sc]) (agg := false) (zero := [.str ⟨#[]⟩]) (size := 1) (bytes := 16) (n := p.length) (by omega) hp rfl rfl (.inr rfl) rfl
    have m3 := qMS_n (μ := [wB wZ, boolB (List.replicate p.length false), tB 0 (List.replicate p.length ⟨#[]⟩)]) (sh := [.sc]) (agg := false) (zero := [.bool false]) (size := 1) (bytes := 1) (n := p.length) (by omega) hp rfl rfl (.inr rfl) rfl
    rw [mkB] at m1 m3
    rw [mkT] at m2
    have bT : ∀ μ : PH, qBS μ false [.sc] false [.str ⟨#[]⟩] 1 0 [] = some (.e0 1, μ) := fun _ => rfl
    simp only [h.1, hb, Bool.not_true, cond_false, bT, b2_some, m1, m2, m3, List.length_cons, List.length_nil, Nat.zero_add, Nat.reduceAdd, List.cons_append, List.nil_append]
    by_cases hnil : p = []
    · subst hnil
      have he := qAp_e0 (μ := [wB wZ, boolB (List.replicate 0 false), tB 0 (List.replicate 0 ⟨#[]⟩), boolB (List.replicate 0 false)]) (sh := [.sc]) (sh' := [.sc]) (z := 1) (by_ := 16) rfl rfl
      simp only [List.map_nil, List.length_nil, he, b2_some, bNewE, bd_some, stNew0, ldNew0]
      obtain ⟨ν', hr⟩ := resNew (p := []) (size := size) (v := 0) (c0 := wB [.own 4 0 0 0 0 false, .int .i64 size, .own 1 0 0 0 0 true, .own 5 0 0 0 0 false, .own 2 0 0 0 0 true, .own 3 0 0 0 0 true, .int .i64 0]) (rs := S_spec_NewWindow.rs) (tl := [.bool true]) (tl' := [.bool true]) (rs' := [[.sc]]) rfl (fun ν => ⟨ν, rfl⟩)
      exact ⟨_, rfl, ν', hr⟩
    · have he := qAp_listM (μ := [wB wZ, boolB (List.replicate p.length false), tB 0 (List.replicate p.length ⟨#[]⟩), boolB (List.replicate p.length false)]) (sh := [.sc]) (z := 1) (by_ := 16) (l := p.map DV.str) rfl (by rw [List.length_map]; exact List.length_pos_iff.2 hnil) (flatL_txt p) (by rw [List.length_map]; omega) (by decide) (by rw [List.length_map]; omega)
      rw [List.length_map] at he
      have s1' := stNew p.length p.length size (tB p.length p)
      unfold nM at s1'
      have he' : qAp [wB wZ, boolB (List.replicate p.length false), tB 0 (List.replicate p.length ⟨#[]⟩), boolB (List.replicate p.length false)] false [.sc] 1 16 (.e0 1) (.sl [.sc] (p.map DV.str)) = some (.own 4 p.length 0 p.length p.length false, [wB wZ, boolB (List.replicate p.length false), tB 0 (List.replicate p.length ⟨#[]⟩), boolB (List.replicate p.length false), tB p.length p]) := he
      simp only [he', b2_some, bNewO, bd_some, s1', ldNew]
      obtain ⟨ν', hr⟩ := resNew (p := p) (size := size) (v := p.length) (c0 := wB [.own 4 p.length 0 p.length p.length false, .int .i64 size, .own 1 0 0 p.length p.length true, .own 5 0 0 0 0 false, .own 2 0 0 p.length p.length true, .own 3 0 0 p.length p.length true, .int .i64 0]) (rs := S_spec_NewWindow.rs) (tl := [.bool true]) (tl' := [.bool true]) (rs' := [[.sc]]) rfl (fun ν => ⟨ν, rfl⟩)
      exact ⟨_, rfl, ν', hr⟩
  · rw [if_neg h]
    refine ⟨([.agg [.own 1 0 0 0 0 false, .int .i64 0, .own 2 0 0 0 0 false, .own 3 0 0 0 0 false, .own 4 0 0 0 0 false, .own 5 0 0 0 0 false, .int .i64 0], .bool false], μz), ?_, νz, lz2⟩
    by_cases hp1 : arePc p = true
    · have hb : (decide (1 ≤ size) && decide (size ≤ 12)) = false := by
        by_cases g1 : 1 ≤ size <;> by_cases g2 : size ≤ 12 <;> simp [g1, g2]
        exact h ⟨hp1, g1, g2⟩
      simp only [hp1, Bool.not_true, cond_false, hb, Bool.not_false, cond_true, bWin0, bd_some, stZ, lz1, b2_some]
    · simp only [hp1, Bool.not_false, cond_true, bWin0, bd_some, stZ, lz1, b2_some]
theorem WS.ldAll {μ : PH} {w : Win} {cell : DV} (h : WS μ w cell) : ∃ ln' μ2, qLd μ 7 true (.ptr 5 0 0 0) = some (.agg (wC 0 ln' w), μ2) ∧ WB μ2 0 w ln' ∧ ∀ k, k < μ.length → k ≠ 5 → μ2[k]? = μ[k]? := by
  rcases h.or_ with ⟨g, hwb⟩ | ⟨hwb, il, vl, o, m, c, g, g5⟩
  · have hst := h.st
    rw [g] at hst
    have hline : w.line = [] := by
      have hl := hwb.lna
      generalize w.line = l at hl
      cases hl; rfl
    have hpl := bk_lt hst
    have e2 : qLd μ 7 true (.ptr 5 0 0 0) = some (.agg (wC 0 (.own μ.length 0 0 0 0 false) w), (μ ++ [(⟨0, shFrm, [], true, false, true⟩ : PB)]).set 5 (wB (wC 0 (.own μ.length 0 0 0 0 false) w))) := by
      have he : (wB (wC 0 (.sl shFrm []) w)).el[0]? = some (.agg (wC 0 (.sl shFrm []) w)) := rfl
      have hk : (((cellsD (.agg (wC 0 (.sl shFrm []) w))).drop 0).take 7).all okC = false := rfl
      have hk2 : (((cellsD (.agg (wC 0 (.sl shFrm []) w))).drop 0).take 7).all (fun c => okC c || isSl c) = true := rfl
      simp only [qLd, hst, Option.bind_some, he, hk, hk2]
      rfl
    have hold : ∀ k, k < μ.length → k ≠ 5 → ((μ ++ [(⟨0, shFrm, [], true, false, true⟩ : PB)]).set 5 (wB (wC 0 (.own μ.length 0 0 0 0 false) w)))[k]? = μ[k]? := fun k hk hkp => by
      rw [List.getElem?_set_ne (Ne.symm hkp), List.getElem?_append_left hk]
    have hb : ∀ k ver, k < μ.length → k ≠ 5 → bk ((μ ++ [(⟨0, shFrm, [], true, false, true⟩ : PB)]).set 5 (wB (wC 0 (.own μ.length 0 0 0 0 false) w))) k ver = bk μ k ver := fun k ver hk hkp => by unfold bk; rw [hold k hk hkp]
    refine ⟨_, _, e2, ⟨?_, ?_, ?_, ?_, ?_, ?_⟩, hold⟩
    · rw [hb 0 0 (bk_lt hwb.b0) (by decide)]; exact hwb.b0
    · rw [hb (0 + 1) 0 (bk_lt hwb.b1) (by decide)]; exact hwb.b1
    · rw [hb (0 + 3) 0 (bk_lt hwb.b3) (by decide)]; exact hwb.b3
    · rw [hb (0 + 4) 0 (bk_lt hwb.b4) (by decide)]; exact hwb.b4
    · rw [hline]
      refine .own _ _ _ _ _ ⟨0, shFrm, [], true, false, true⟩ _ ?_ ⟨rfl, rfl, rfl, rfl, by simp⟩ (Nat.le_refl _)
      rw [bk_set_ne (by omega)]
      simp [bk]
    · intro il hi
      cases hi
      have q0 := bk_lt hwb.b0; have q1 := bk_lt hwb.b1; have q3 := bk_lt hwb.b3; have q4 := bk_lt hwb.b4
      omega
  · subst g
    exact ⟨_, μ, qLd_ok h.st (e := .agg (wC 0 (.own il vl o m c false) w)) rfl rfl rfl, hwb, fun _ _ _ => rfl⟩
/-- the end of both: the window in new memory, what was done -/
theorem resPW {μ : PH} {k : Nat} {x : DV} {d : List Bool} {w : Win} (hd : DN μ k x d) (hx : x ≠ .nil → k < μ.length) (rs : List (List Sh)) (hrs : rs = [shWin, [.sl [.sc]], [.sc]]) :
    ∃ ν', resO rs [winOwn μ.length w, x, .bool true] (μ ++ wM w) = some ([w.enc, .sl [.sc] (d.map eBool), .bool true], ν') := by
  subst hrs
  obtain ⟨ν, t1, t2, t3⟩ := (WB.app μ w).res
  have hd' : DN ν k x d := hd.mono fun hn => by
    have := hx hn
    rw [t3 k (by omega) (by omega) (by omega) (by omega) (fun il hi => by cases hi; omega), List.getElem?_append_left this]
  obtain ⟨μ', h'⟩ := hd'.tk
  refine ⟨μ', ?_⟩
  have hx' : onS tkC ν [.sl [.sc]] x = some (.sl [.sc] (d.map eBool), μ') := by
    cases hd with
    | nil => exact h'
    | own _ _ _ _ _ => exact h'
  have t1' : onS tkC (μ ++ wM w) shWin (winOwn μ.length w) = some (w.enc, ν) := t1
  simp only [resO, t1', hx', Option.bind_some]
  rfl
end Go.Lg.Pv.Q
namespace Go.Lg.Pv.Q
open Go Go.Lg Go.Lg.Pv
set_option linter.unusedVariables false
set_option linter.unusedSimpArgs false
set_option maxRecDepth 100000

def playW : List WStep → Win → List Bool → Win × List Bool
  | [], w, d => (w, d)
  | s :: l, w, d => playW l (stepW w s).1 (d ++ [(stepW w s).2])
def outPW (p : List ByteArray) (size : Int) (l : List WStep) : Win × List Bool × Bool :=
  if (outN p size).2 = true ∧ l.length ≤ 150 then ((playW l (newWin p size) []).1, (playW l (newWin p size) []).2, true) else (win0, [], false)
theorem stepW_same {w : Win} {s : WStep} (h : (stepW w s).2 = false) : (stepW w s).1 = w := by
  have key : stepW w s = (w, false) ∨ (stepW w s).2 = true := by
    unfold stepW
    repeat' split
    all_goals first | exact .inl rfl | exact .inr rfl
  rcases key with k | k
  · rw [k]
  · rw [k] at h; cases h
theorem playW_ok : ∀ (l : List WStep) (w : Win) (d : List Bool), WOk w → WOk (playW l w d).1 ∧ (playW l w d).2.length = d.length + l.length
  | [], w, d, h => ⟨h, by simp [playW]⟩
  | s :: l, w, d, h => by
    have := playW_ok l (stepW w s).1 (d ++ [(stepW w s).2]) (stepW_ok h s)
    refine ⟨this.1, this.2.trans ?_⟩
    simp only [List.length_append, List.length_cons, List.length_nil]; omega
theorem outN_new {p : List ByteArray} {size : Int} (h : (outN p size).2 = true) : outN p size = (newWin p size, true) ∧ arePc p = true ∧ 1 ≤ size ∧ size ≤ 12 := by
  unfold outN at h ⊢
  by_cases hc : arePc p = true ∧ 1 ≤ size ∧ size ≤ 12
  · rw [if_pos hc]; exact ⟨rfl, hc⟩
  · rw [if_neg hc] at h; cases h
theorem gt150 (l : List WStep) : decide ((l.length : Int) > 150) = !decide (l.length ≤ 150) := by
  by_cases h : l.length ≤ 150
  · have : ¬ ((l.length : Int) > 150) := by omega
    simp [h, this]
  · have : ((l.length : Int) > 150) := by omega
    simp [h, this]
theorem resPW0 (ν : PH) : resO [shWin, [.sl [.sc]], [.sc]] [.agg [.nil, .int .i64 0, .nil, .nil, .nil, .nil, .int .i64 0], .nil, .bool false] ν = some ([win0.enc, .sl [.sc] [], .bool false], ν) := rfl
theorem playI {N n : Nat} (hN : 4294967296 ≤ N) (p : List ByteArray) (size : Int) (l : List WStep) (hp : p.length ≤ 1048576) (hlen : l.length ≤ 1048576) :
    run1 S_impl_PlayWindow (qfn P N (n + 8) n_impl_PlayWindow) [.sl [.sc] (p.map DV.str), .int .i64 size, .sl shWStep (l.map WStep.enc)] = some ([(outPW p size l).1.enc, .sl [.sc] ((outPW p size l).2.1.map eBool), .bool (outPW p size l).2.2], []) := by
  have e1 := cq_sn (μ := []) (args := [.sl [.sc] (p.map DV.str), .int .i64 size]) (s := S_impl_NewWindow) rfl (by simp only [sns, S_impl_NewWindow, sn_cl _ _ (txts_cl p), snI, Option.bind_some]) (NewI (N := N) (n := n) hN p size hp) rfl
  rw [adL_w] at e1
  have hal : ∀ w : Win, qAl (wM w) false [.sl [.sc], .sc, .sl [.sc], .sl [.sc, .sc, .sc], .sl [.sc], .sl [.sc], .sc] true [.nil, .int .i64 0, .nil, .nil, .nil, .nil, .int .i64 0] = some (.ptr 5 0 0 0, wM w ++ [wB wZ]) := fun _ => rfl
  have e1' : cq S_impl_NewWindow (qfn P N (n + 7) n_impl_NewWindow) [.sl [.sc] (p.map DV.str), .int .i64 size] [] = some ([winOwn 0 (outN p size).1, .bool (outN p size).2], wM (outN p size).1) := e1
  have e3 := stWw (outN p size).1 (μ := wM (outN p size).1 ++ [wB wZ]) (id := 5) (i := 0) rfl
  unfold outPW
  by_cases hc : (outN p size).2 = true ∧ l.length ≤ 150
  rotate_left
  · rw [if_neg hc]
    refine run1_ex rfl rfl rfl ?_
    · rw [impl_PlayWindow_eq]
      unfold P_impl_PlayWindow
      simp only [e1', c2_some, u2_list, hal, b2_some, e3, bd_some, qUn_not, qB_bool]
      by_cases h2 : (outN p size).2 = true
      · have hl : ¬ l.length ≤ 150 := fun h => hc ⟨h2, h⟩
        simp only [h2, Bool.not_true, cond_false, qLen_sl, List.length_map, bd_some, qBin_gtr, qB_bool, gt150, hl, decide_false, Bool.not_false, cond_true, bWin0, a7_agg]
        exact ⟨_, rfl, _, resPW0 _⟩
      · simp only [h2, Bool.not_false, cond_true, bWin0, bd_some, a7_agg]
        exact ⟨_, rfl, _, resPW0 _⟩
  rw [if_pos hc]
  obtain ⟨ho, hnew⟩ := outN_new hc.1
  have hwok := newWin_ok hnew
  have hl := hc.2
  rw [ho] at e1' e3
  generalize newWin p size = w0 at *
  generalize hFd : playW l w0 [] = F
  refine run1_ex rfl rfl rfl ?_
  rw [impl_PlayWindow_eq]
  unfold P_impl_PlayWindow
  simp only [e1', c2_some, u2_list, hal, b2_some, e3, bd_some, qUn_not, qB_bool, Bool.not_true, cond_false, qLen_sl, List.length_map, qBin_gtr, gt150, hl, decide_true]
  have hws : WS ((wM w0 ++ [wB wZ]).set 5 (wB (wC 0 (.own (0 + 2) 0 0 w0.line.length w0.line.length false) w0))) w0 (.own (0 + 2) 0 0 w0.line.length w0.line.length false) :=
    ⟨rfl, .inr ⟨WB.own rfl rfl rfl rfl rfl, _, _, _, _, _, rfl, by decide⟩⟩
  have hμl : ((wM w0 ++ [wB wZ]).set 5 (wB (wC 0 (.own (0 + 2) 0 0 w0.line.length w0.line.length false) w0))).length = 6 := rfl
  generalize (wM w0 ++ [wB wZ]).set 5 (wB (wC 0 (.own (0 + 2) 0 0 w0.line.length w0.line.length false) w0)) = μ0 at hws hμl
  refine loop_ex (F := P_impl_PlayWindow.l0 N (qfn P N (n + 7)) 0) (N := N) (σ := Win × List Bool × DV × PH × DV × Nat) (len := l.length)
    (fun i s => ([.ptr 5 0 0 0, s.2.2.1, .sl shWStep (l.map WStep.enc), .int .i64 (l.length : Nat), .int .i64 (i : Nat), .nil, .int .i64 0, .nil, .nil, .nil, .nil, .int .i64 0] : List DV)) (fun i s => s.2.2.2.1)
    (fun i s => WOk s.1 ∧ WS s.2.2.2.1 s.1 s.2.2.2.2.1 ∧ DN s.2.2.2.1 s.2.2.2.2.2 s.2.2.1 s.2.1 ∧ (s.2.2.1 ≠ .nil → s.2.2.2.2.2 < s.2.2.2.1.length ∧ 5 < s.2.2.2.2.2 ∧ idO s.2.2.2.2.1 ≠ some s.2.2.2.2.2) ∧ s.2.1.length = i ∧ playW (l.drop i) s.1 s.2.1 = F)
    (fun r : List DV × PH => ∃ ν', resO S_impl_PlayWindow.rs r.1 r.2 = some ([F.1.enc, .sl [.sc] (F.2.map eBool), .bool true], ν'))
    ?_ ?_ l.length (i := 0) (s := (w0, [], .nil, μ0, .own (0 + 2) 0 0 w0.line.length w0.line.length false, 0)) ⟨hwok, hws, .nil 0, fun h => absurd rfl h, rfl, by rw [List.drop_zero]; exact hFd⟩ (by omega) (by omega)
  · rintro i ⟨w, d, x, μ, cell, k⟩ rec hi ⟨hw, hs, hd, hx, hdl, hp⟩
    simp only at hw hs hd hx hdl hp ⊢
    have hxl : l.drop i = l[i] :: l.drop (i + 1) := List.drop_eq_getElem_cons hi
    rw [hxl] at hp
    obtain ⟨μ1, cell1, q1, q2, q3⟩ := step_ok (N := N) (n := n + 4) hN l[i] hs hw
    obtain ⟨k', hd1, hk1, hk2, hk5⟩ : ∃ k', DN μ1 k' x d ∧ (x = .nil → k' = μ1.length) ∧ (x ≠ .nil → k' < μ1.length ∧ 5 < k' ∧ idO cell1 ≠ some k') ∧ 5 < k' := by
      by_cases hn : x = .nil
      · subst hn
        cases hd with
        | nil => exact ⟨μ1.length, .nil _, fun _ => rfl, fun h => absurd rfl h, q2.lt.1⟩
      · obtain ⟨a1, a2, a3⟩ := hx hn
        refine ⟨k, hd.mono fun _ => q3.eq k a1 (by omega) (by omega) (by omega) (by omega) (by omega) a3, fun h => absurd h hn, fun _ => ⟨Nat.lt_of_lt_of_le a1 q3.len, a2, fun e => ?_⟩, a2⟩
        rcases q3.id k e with g | g
        · exact a3 g
        · omega
    obtain ⟨x', μ2, g1, g2, g3, g4, g5⟩ := hd1.app hk1 (by omega) (stepW w l[i]).2
    have hcid : idO cell1 ≠ some k' := by
      by_cases hn : x = .nil
      · rw [hk1 hn]; intro e; have := q2.lt.2 _ e; omega
      · exact (hk2 hn).2.2
    have hws2 : WS μ2 (stepW w l[i]).1 cell1 := q2.mono fun j ver hj => by
      have hlt := q2.lt
      unfold bk
      rw [g4 j (by
        rcases hj with rfl | rfl | rfl | rfl | rfl | hj
        · omega
        · omega
        · omega
        · omega
        · omega
        · exact fun e => hcid (by rw [← e]; exact hj)) (by
        rcases hj with rfl | rfl | rfl | rfl | rfl | hj
        · omega
        · omega
        · omega
        · omega
        · omega
        · exact hlt.2 _ hj)]
    refine .inl ⟨((stepW w l[i]).1, d ++ [(stepW w l[i]).2], x', μ2, cell1, k'), ⟨stepW_ok hw _, hws2, g2, fun _ => ⟨g2.lt g3, hk5, hcid⟩, by simp [hdl], hp⟩, ?_⟩
    unfold P_impl_PlayWindow.l0
    simp only [u12_list, bd_some, qBin_lss, qB_bool, Int.ofNat_lt, hi, decide_true, cond_true, qIA_map _ (show shWStep.length = 2 from rfl) hi, qLd_rp, WStep.get, Option.map_some, b2_some, a2_wst]
    have q1' : qfn P N (n + 7) n_impl_Window_step [.ptr 5 0 0 0, .agg [.int .i64 l[i].kind, .int .i64 l[i].k]] μ = _ := q1
    simp only [q1', c1_some, u1_list, bsB, b2_some, g1, qBin_add, bd_some]
    rw [wrapI (n := (i : Int) + 1) (by constructor <;> omega)]
    rfl
  · rintro ⟨w, d, x, μ, cell, k⟩ rec ⟨hw, hs, hd, hx, hdl, hp⟩
    simp only at hw hs hd hx hdl hp ⊢
    have hz : l.drop l.length = [] := List.drop_length
    rw [hz] at hp
    have hp : (w, d) = F := hp
    obtain ⟨ln', μ2, r1, r2, r3⟩ := hs.ldAll
    obtain ⟨k0, k1, k2, k3, k4⟩ := wok_len hw
    have e6 := cq_ownW (N := N) (n := n + 5) w k0 k1 k2 k3 k4 (μ := μ2) (args := [.agg (wC 0 ln' w)]) (by simp only [sns, S_impl_Window_own]; rw [r2.sn]; rfl)
    have hd2 : DN μ2 k x d := hd.mono fun hn => by
      obtain ⟨a1, a2, a3⟩ := hx hn
      exact r3 k a1 (by omega)
    refine ⟨([winOwn μ2.length w, x, .bool true], μ2 ++ wM w), ?_, ?_⟩
    · unfold P_impl_PlayWindow.l0
      simp only [u12_list, bd_some, qBin_lss, qB_bool, Int.lt_irrefl, decide_false, cond_false, r1, b2_some, e6, c1_some, u1_list, a7_winOwn, fold_winOwn]
    · subst hp
      exact resPW hd2 (fun hn => hd2.lt hn) _ rfl
theorem WB.app2 {μ ν : PH} {i : Nat} {w : Win} {ln : DV} (h : WB μ i w ln) : WB (μ ++ ν) i w ln := by
  have hl : ∀ k ver, k < μ.length → bk (μ ++ ν) k ver = bk μ k ver := fun k ver hk => by unfold bk; rw [List.getElem?_append_left hk]
  refine h.mono fun k ver hk => hl k ver ?_
  rcases hk with rfl | rfl | rfl | rfl | hk
  · exact bk_lt h.b0
  · exact bk_lt h.b1
  · exact bk_lt h.b3
  · exact bk_lt h.b4
  · have := h.lna
    generalize w.line = l at this
    cases this with
    | e0 => cases hk
    | own a b c d e bj _ hb _ _ => cases hk; exact bk_lt hb
theorem playS {N n : Nat} (hN : 4294967296 ≤ N) (p : List ByteArray) (size : Int) (l : List WStep) (hp : p.length ≤ 1048576) (hlen : l.length ≤ 1048576) :
    run1 S_spec_PlayWindow (qfn P N (n + 8) n_spec_PlayWindow) [.sl [.sc] (p.map DV.str), .int .i64 size, .sl shWStep (l.map WStep.enc)] = some ([(outPW p size l).1.enc, .sl [.sc] ((outPW p size l).2.1.map eBool), .bool (outPW p size l).2.2], []) := by
  have e1 := cq_sn (μ := []) (args := [.sl [.sc] (p.map DV.str), .int .i64 size]) (s := S_spec_NewWindow) rfl (by simp only [sns, S_spec_NewWindow, sn_cl _ _ (txts_cl p), snI, Option.bind_some]) (NewS (N := N) (n := n) hN p size hp) rfl
  rw [adL_w] at e1
  have e1' : cq S_spec_NewWindow (qfn P N (n + 7) n_spec_NewWindow) [.sl [.sc] (p.map DV.str), .int .i64 size] [] = some ([winOwn 0 (outN p size).1, .bool (outN p size).2], wM (outN p size).1) := e1
  unfold outPW
  by_cases hc : (outN p size).2 = true ∧ l.length ≤ 150
  rotate_left
  · rw [if_neg hc]
    refine run1_ex rfl rfl rfl ?_
    · rw [spec_PlayWindow_eq]
      unfold P_spec_PlayWindow
      simp only [e1', c2_some, u2_list, a7_winOwn, bd_some, qUn_not, qB_bool]
      by_cases h2 : (outN p size).2 = true
      · have hl : ¬ l.length ≤ 150 := fun h => hc ⟨h2, h⟩
        simp only [h2, Bool.not_true, cond_false, qLen_sl, List.length_map, bd_some, qBin_gtr, qB_bool, gt150, hl, decide_false, Bool.not_false, cond_true, bWin0, a7_agg]
        exact ⟨_, rfl, _, resPW0 _⟩
      · simp only [h2, Bool.not_false, cond_true, bWin0, bd_some, a7_agg]
        exact ⟨_, rfl, _, resPW0 _⟩
  rw [if_pos hc]
  obtain ⟨ho, hnew⟩ := outN_new hc.1
  have hwok := newWin_ok hnew
  have hl := hc.2
  rw [ho] at e1'
  generalize newWin p size = w0 at *
  generalize hFd : playW l w0 [] = F
  refine run1_ex rfl rfl rfl ?_
  rw [spec_PlayWindow_eq]
  unfold P_spec_PlayWindow
  simp only [e1', c2_some, u2_list, a7_winOwn, bd_some, qUn_not, qB_bool, Bool.not_true, cond_false, qLen_sl, List.length_map, qBin_gtr, gt150, hl, decide_true]
  refine loop_ex (F := P_spec_PlayWindow.l0 N (qfn P N (n + 7)) 0) (N := N) (σ := Win × List Bool × DV × PH × Nat × Nat) (len := l.length)
    (fun i s => ([s.2.2.1, .sl shWStep (l.map WStep.enc), .int .i64 (l.length : Nat), .int .i64 (i : Nat), .nil, .int .i64 0, .nil, .nil, .nil, .nil, .int .i64 0, .own s.2.2.2.2.1 0 0 s.1.pieces.length s.1.pieces.length false, .int .i64 s.1.size, .own (s.2.2.2.2.1 + 1) 0 0 s.1.heard.length s.1.heard.length false, .own (s.2.2.2.2.1 + 2) 0 0 s.1.line.length s.1.line.length false, .own (s.2.2.2.2.1 + 3) 0 0 s.1.held.length s.1.held.length false, .own (s.2.2.2.2.1 + 4) 0 0 s.1.has.length s.1.has.length false, .int .i64 s.1.told] : List DV)) (fun i s => s.2.2.2.1)
    (fun i s => WOk s.1 ∧ WB s.2.2.2.1 s.2.2.2.2.1 s.1 (.own (s.2.2.2.2.1 + 2) 0 0 s.1.line.length s.1.line.length false) ∧ DN s.2.2.2.1 s.2.2.2.2.2 s.2.2.1 s.2.1 ∧ (s.2.2.1 ≠ .nil → s.2.2.2.2.2 < s.2.2.2.1.length ∧ (s.2.2.2.2.2 < s.2.2.2.2.1 ∨ s.2.2.2.2.1 + 4 < s.2.2.2.2.2)) ∧ s.2.1.length = i ∧ playW (l.drop i) s.1 s.2.1 = F)
    (fun r : List DV × PH => ∃ ν', resO S_spec_PlayWindow.rs r.1 r.2 = some ([F.1.enc, .sl [.sc] (F.2.map eBool), .bool true], ν'))
    ?_ ?_ l.length (i := 0) (s := (w0, [], .nil, wM w0, 0, 0)) ⟨hwok, WB.own rfl rfl rfl rfl rfl, .nil 0, fun h => absurd rfl h, rfl, by rw [List.drop_zero]; exact hFd⟩ (by omega) (by omega)
  · rintro i ⟨w, d, x, μ, j, k⟩ rec hi ⟨hw, hs, hd, hx, hdl, hp⟩
    simp only at hw hs hd hx hdl hp ⊢
    have hxl : l.drop i = l[i] :: l.drop (i + 1) := List.drop_eq_getElem_cons hi
    rw [hxl] at hp
    obtain ⟨k0, k1, k2, k3, k4⟩ := wok_len hw
    have hal := alW μ
    have hs1 := hs.app2 (ν := [wB wZ])
    have e2 := cq_l9Own (N := N) (n := n + 6) w k0 k1 k2 k3 k4 (μ := μ ++ [wB wZ]) (args := [.agg (wC j (.own (j + 2) 0 0 w.line.length w.line.length false) w)]) (by simp only [sns, S_spec_l9Own]; rw [hs1.sn]; rfl)
    have hl1 : (μ ++ [wB wZ]).length = μ.length + 1 := by simp
    obtain ⟨ν, q1, q2, q3⟩ := cq_stp (N := N) (n := n + 4) hN w l[i] hw (WB.app (μ ++ [wB wZ]) w)
    have hνl : ν.length = μ.length + 6 := by rw [q2, List.length_append, hl1]; rfl
    have hold : ∀ t, t ≤ μ.length → ν[t]? = (μ ++ [wB wZ])[t]? := fun t ht => by
      rw [q3 t (by omega) (by omega) (by omega) (by omega) (fun il hil => by cases hil; omega), List.getElem?_append_left (by omega)]
    have hwo := stepW_ok hw l[i]
    have hb : bk (ν ++ wM (stepW w l[i]).1) μ.length 0 = some (wB wZ) := by
      unfold bk; rw [List.getElem?_append_left (by omega), hold _ (Nat.le_refl _)]; simp; decide
    have e3 := stWw (stepW w l[i]).1 (i := ν.length) hb rfl
    have e5 := ldWw (stepW w l[i]).1 (bk_wB (b := wC ν.length (.own (ν.length + 2) 0 0 (stepW w l[i]).1.line.length (stepW w l[i]).1.line.length false) (stepW w l[i]).1) hb)
    have hwb2 : WB ((ν ++ wM (stepW w l[i]).1).set μ.length (wB (wC ν.length (.own (ν.length + 2) 0 0 (stepW w l[i]).1.line.length (stepW w l[i]).1.line.length false) (stepW w l[i]).1))) ν.length (stepW w l[i]).1 (.own (ν.length + 2) 0 0 (stepW w l[i]).1.line.length (stepW w l[i]).1.line.length false) :=
      (WB.app ν (stepW w l[i]).1).mono fun t ver ht => bk_set_ne (by
        rcases ht with ht | ht | ht | ht | ht
        · omega
        · omega
        · omega
        · omega
        · cases ht; omega)
    generalize hM4 : (ν ++ wM (stepW w l[i]).1).set μ.length (wB (wC ν.length (.own (ν.length + 2) 0 0 (stepW w l[i]).1.line.length (stepW w l[i]).1.line.length false) (stepW w l[i]).1)) = M4 at e3 e5 hwb2
    have hM4l : M4.length = μ.length + 11 := by subst hM4; rw [List.length_set, List.length_append, hνl]; rfl
    have old4 : ∀ t, t < μ.length → M4[t]? = μ[t]? := fun t ht => by
      rw [← hM4, List.getElem?_set_ne (by omega), List.getElem?_append_left (by omega), hold t (by omega), List.getElem?_append_left ht]
    obtain ⟨k', hd4, hk1, hk2⟩ : ∃ k', DN M4 k' x d ∧ (x = .nil → k' = M4.length) ∧ (x ≠ .nil → k' = k) := by
      by_cases hn : x = .nil
      · subst hn
        cases hd with
        | nil => exact ⟨M4.length, .nil _, fun _ => rfl, fun h => absurd rfl h⟩
      · exact ⟨k, hd.mono fun _ => old4 k (hx hn).1, fun h => absurd h hn, fun _ => rfl⟩
    obtain ⟨x', M5, g1, g2, g3, g4, g5⟩ := hd4.app hk1 (by omega) (stepW w l[i]).2
    have hk5 : k' < M5.length := g2.lt g3
    have kn : ∀ t, t < M4.length → (x ≠ .nil → t ≠ k) → t ≠ k' := fun t ht ht2 => by
      by_cases hn : x = .nil
      · rw [hk1 hn]; omega
      · rw [hk2 hn]; exact ht2 hn
    have same : ∀ t ver, t < M4.length → t ≠ k' → bk M5 t ver = bk M4 t ver := fun t ver ht hn => by unfold bk; rw [g4 t hn ht]
    have q1' : cq S_spec_l9Step (qfn P N (n + 7) n_spec_l9Step) [winOwn (μ.length + 1) w, .agg [.int .i64 l[i].kind, .int .i64 l[i].k]] ((μ ++ [wB wZ]) ++ wM w) = some ([winOwn ν.length (stepW w l[i]).1, .bool (stepW w l[i]).2], ν ++ wM (stepW w l[i]).1) := by
      have := q1; rw [hl1] at this; exact this
    have e2' : cq S_spec_l9Own (qfn P N (n + 7) n_spec_l9Own) [.agg [.own j 0 0 w.pieces.length w.pieces.length false, .int .i64 w.size, .own (j + 1) 0 0 w.heard.length w.heard.length false, .own (j + 2) 0 0 w.line.length w.line.length false, .own (j + 3) 0 0 w.held.length w.held.length false, .own (j + 4) 0 0 w.has.length w.has.length false, .int .i64 w.told]] (μ ++ [wB wZ]) = some ([winOwn (μ.length + 1) w], (μ ++ [wB wZ]) ++ wM w) := by
      have := e2; rw [hl1] at this; exact this
    cases hq : (stepW w l[i]).2 with
    | true =>
      rw [hq] at g1 g2
      have hWB5 : WB M5 ν.length (stepW w l[i]).1 (.own (ν.length + 2) 0 0 (stepW w l[i]).1.line.length (stepW w l[i]).1.line.length false) := hwb2.mono fun t ver ht => by
        have hb5 : t < M4.length ∧ ν.length ≤ t := by
          rcases ht with ht | ht | ht | ht | ht
          · omega
          · omega
          · omega
          · omega
          · cases ht; omega
        exact same t ver hb5.1 (kn t hb5.1 fun hn => by have := (hx hn).1; omega)
      refine .inl ⟨((stepW w l[i]).1, d ++ [true], x', M5, ν.length, k'), ⟨hwo, hWB5, g2, fun _ => ⟨hk5, ?_⟩, by simp [hdl], by rw [← hp]; simp only [playW, hq]⟩, ?_⟩
      · show k' < ν.length ∨ ν.length + 4 < k'
        by_cases hn : x = .nil
        · right; rw [hk1 hn]; omega
        · left; rw [hk2 hn]; have := (hx hn).1; omega
      · unfold P_spec_PlayWindow.l0
        simp only [u18_list, bd_some, qBin_lss, qB_bool, Int.ofNat_lt, hi, decide_true, cond_true, qIA_map _ (show shWStep.length = 2 from rfl) hi, qLd_rp, WStep.get, Option.map_some, b2_some, a2_wst, hal, e2', c1_some, u1_list, q1', c2_some, u2_list, e3, hq, e5, a7_winOwn, bsB, g1, qBin_add]
        rw [wrapI (n := (i : Int) + 1) (by constructor <;> omega)]
        rfl
    | false =>
      rw [hq] at g1 g2
      have hsame := stepW_same hq
      have hjl := bk_lt hs.b0
      have hj4 := bk_lt hs.b4
      have hj3 := bk_lt hs.b3
      have hj1 := bk_lt hs.b1
      have hj2 : j + 2 < μ.length := by
        have := hs.lna
        generalize w.line.length = m at this
        generalize w.line = ll at this
        cases this with
        | own _ _ _ _ _ bj _ hb _ _ => exact bk_lt hb
      have hWB5 : WB M5 j w (.own (j + 2) 0 0 w.line.length w.line.length false) := hs.mono fun t ver ht => by
        have hb5 : t < μ.length ∧ j ≤ t ∧ t ≤ j + 4 := by
          rcases ht with ht | ht | ht | ht | ht
          · omega
          · omega
          · omega
          · omega
          · cases ht; omega
        rw [same t ver (by omega) (kn t (by omega) fun hn => by have := (hx hn).2; omega)]
        unfold bk; rw [old4 t hb5.1]
      refine .inl ⟨(w, d ++ [false], x', M5, j, k'), ⟨hw, hWB5, g2, fun _ => ⟨hk5, ?_⟩, by simp [hdl], by rw [← hp]; simp only [playW, hq, hsame]⟩, ?_⟩
      · show k' < j ∨ j + 4 < k'
        by_cases hn : x = .nil
        · right; rw [hk1 hn]; omega
        · rw [hk2 hn]; exact (hx hn).2
      · unfold P_spec_PlayWindow.l0
        simp only [u18_list, bd_some, qBin_lss, qB_bool, Int.ofNat_lt, hi, decide_true, cond_true, qIA_map _ (show shWStep.length = 2 from rfl) hi, qLd_rp, WStep.get, Option.map_some, b2_some, a2_wst, hal, e2', c1_some, u1_list, q1', c2_some, u2_list, e3, hq, cond_false, bsB, g1, qBin_add]
        rw [wrapI (n := (i : Int) + 1) (by constructor <;> omega)]
        rfl
  · rintro ⟨w, d, x, μ, j, k⟩ rec ⟨hw, hs, hd, hx, hdl, hp⟩
    simp only at hw hs hd hx hdl hp ⊢
    have hz : l.drop l.length = [] := List.drop_length
    rw [hz] at hp
    have hp : (w, d) = F := hp
    obtain ⟨k0, k1, k2, k3, k4⟩ := wok_len hw
    have e6 := cq_l9Own (N := N) (n := n + 6) w k0 k1 k2 k3 k4 (μ := μ) (args := [.agg (wC j (.own (j + 2) 0 0 w.line.length w.line.length false) w)]) (by simp only [sns, S_spec_l9Own]; rw [hs.sn]; rfl)
    have e6' : cq S_spec_l9Own (qfn P N (n + 7) n_spec_l9Own) [.agg [.own j 0 0 w.pieces.length w.pieces.length false, .int .i64 w.size, .own (j + 1) 0 0 w.heard.length w.heard.length false, .own (j + 2) 0 0 w.line.length w.line.length false, .own (j + 3) 0 0 w.held.length w.held.length false, .own (j + 4) 0 0 w.has.length w.has.length false, .int .i64 w.told]] μ = some ([winOwn μ.length w], μ ++ wM w) := e6
    refine ⟨([winOwn μ.length w, x, .bool true], μ ++ wM w), ?_, ?_⟩
    · unfold P_spec_PlayWindow.l0
      simp only [u18_list, bd_some, qBin_lss, qB_bool, Int.lt_irrefl, decide_false, cond_false, b2_some, e6', c1_some, u1_list, a7_winOwn]
      rfl
    · subst hp
      exact resPW hd (fun h => (hx h).1) _ rfl
end Go.Lg.Pv.Q
namespace Go.Lg.Pv.Q
open Go Go.Lg Go.Lg.Pv
set_option linter.unusedVariables false
set_option linter.unusedSimpArgs false
set_option maxRecDepth 100000

theorem outPW_len (p : List ByteArray) (size : Int) (l : List WStep) : ((outPW p size l).1.pieces.length ≤ 13 ∧ (outPW p size l).1.heard.length ≤ 13 ∧ (outPW p size l).1.line.length ≤ 30 ∧ (outPW p size l).1.held.length ≤ 13 ∧ (outPW p size l).1.has.length ≤ 13) ∧ (outPW p size l).2.1.length ≤ 150 := by
  unfold outPW
  split
  · rename_i h
    have hw := playW_ok l (newWin p size) [] (newWin_ok (outN_new h.1).2)
    have := hw.1.h1; have := hw.1.h2; have := hw.1.h3; have := hw.1.n; have := hw.1.l
    have h2 := hw.2
    simp only [List.length_nil, Nat.zero_add] at h2
    refine ⟨⟨?_, ?_, ?_, ?_, ?_⟩, ?_⟩
    · show (playW l (newWin p size) []).1.pieces.length ≤ 13; omega
    · show (playW l (newWin p size) []).1.heard.length ≤ 13; omega
    · show (playW l (newWin p size) []).1.line.length ≤ 30; omega
    · show (playW l (newWin p size) []).1.held.length ≤ 13; omega
    · show (playW l (newWin p size) []).1.has.length ≤ 13; omega
    · show (playW l (newWin p size) []).2.length ≤ 150; omega
  · decide
theorem adL_wdb (μ : PH) (w : Win) (d : List Bool) (b : Bool) : adL true μ [w.enc, .sl [.sc] (d.map eBool), .bool b] = ([winOwn μ.length w, .own (μ.length + 5) 0 0 d.length d.length false, .bool b], μ ++ [tB 0 w.pieces, boolB w.heard, frmB w.line, tB 0 w.held, boolB w.has, boolB d]) := by
  rw [adL_w]
  simp only [adL_sl, adL, adV, unfL, cond_true, wM, List.length_append, List.length_cons, List.length_nil, List.length_map, List.append_assoc, List.cons_append, List.nil_append]
  rfl
section
variable {N n : Nat} (hN : 4294967296 ≤ N)
include hN
theorem Q_pwS (p : List ByteArray) (size : Int) (l : List WStep) (hp : p.length ≤ 1048576) (hl : l.length ≤ 1048576) {μ : PH} {i j : Nat} (hi : bk μ i 0 = some (tB 0 p)) (hj : bk μ j 0 = some (wStepB l)) :
    cq S_spec_PlayWindow (qfn P N (n + 9) n_spec_PlayWindow) [.own i 0 0 p.length p.length false, .int .i64 size, .own j 0 0 l.length l.length false] μ =
    some ([winOwn μ.length (outPW p size l).1, .own (μ.length + 5) 0 0 (outPW p size l).2.1.length (outPW p size l).2.1.length false, .bool (outPW p size l).2.2], μ ++ [tB 0 (outPW p size l).1.pieces, boolB (outPW p size l).1.heard, frmB (outPW p size l).1.line, tB 0 (outPW p size l).1.held, boolB (outPW p size l).1.has, boolB (outPW p size l).2.1]) := by
  rw [cq_sn rfl (by simp only [sns, S_spec_PlayWindow, snT hi rfl rfl rfl, snI, snWStep hj rfl rfl rfl, Option.bind_some]) (playS (n := n + 1) hN p size l hp hl) rfl, adL_wdb]
theorem Q_pwI (p : List ByteArray) (size : Int) (l : List WStep) (hp : p.length ≤ 1048576) (hl : l.length ≤ 1048576) {μ : PH} {i j : Nat} (hi : bk μ i 0 = some (tB 0 p)) (hj : bk μ j 0 = some (wStepB l)) :
    cq S_impl_PlayWindow (qfn P N (n + 9) n_impl_PlayWindow) [.own i 0 0 p.length p.length false, .int .i64 size, .own j 0 0 l.length l.length false] μ =
    some ([winOwn μ.length (outPW p size l).1, .own (μ.length + 5) 0 0 (outPW p size l).2.1.length (outPW p size l).2.1.length false, .bool (outPW p size l).2.2], μ ++ [tB 0 (outPW p size l).1.pieces, boolB (outPW p size l).1.heard, frmB (outPW p size l).1.line, tB 0 (outPW p size l).1.held, boolB (outPW p size l).1.has, boolB (outPW p size l).2.1]) := by
  rw [cq_sn rfl (by simp only [sns, S_impl_PlayWindow, snT hi rfl rfl rfl, snI, snWStep hj rfl rfl rfl, Option.bind_some]) (playI (n := n + 1) hN p size l hp hl) rfl, adL_wdb]
theorem Q_heldB (m : Nat) (hm : m ≤ 1048576) (k : Int) (h0 : 0 < k) (h1 : k ≤ 100000000) {μ : PH} {i : Nat} (hi : bk μ i 0 = some (boolB (marksBool k m))) : cq S_laws_heldBoolS (qfn P N (n + 9) n_laws_heldBoolS) [.own i 0 0 m m false, .int .i64 k] μ = some ([.int .i64 (k + m)], μ) :=
  cq_heldBool (n := n + 8) hN m k hm h0 h1 (by simp only [sns, S_laws_heldBoolS, snBool hi rfl rfl (marksBool_len k m).symm, snI, Option.bind_some])
theorem law_pw (p : List ByteArray) (hps : ∀ y ∈ p, (y.size : Int) ≤ 9223372036854775807) (hpl : (p.length : Int) ≤ 9223372036854775807) (size : Int) (hsz : inI size) (l : List WStep) (hl : ∀ o ∈ l, o.ok) (hll : (l.length : Int) ≤ 9223372036854775807) :
    ∃ μ', qfn P N (n + 10) n_laws_FnExactPlayWindow [.sl [.sc] (p.map DV.str), .int .i64 size, .sl shWStep (l.map WStep.enc)] [] = some ([.bool true], μ') := by
  rw [laws_FnExactPlayWindow_eq]
  unfold P_laws_FnExactPlayWindow
  rw [cq_sn (args' := [.sl [.sc] (p.map DV.str), .int .i64 1048576]) rfl (by simp only [sns, S_laws_szStringS, sn_cl _ _ (txts_cl p), snI, Option.bind_some]) (szStringS_ok (n := n + 8) hN p 1048576 (by decide) (by decide) hps hpl) rfl, adL_sc rfl]
  simp only [c1_some, u1_list, qBin_lss, bd_some, qB_bool]
  by_cases hneg : szTexts p 1048576 < 0
  · exact ⟨_, by simp only [hneg, decide_true, cond_true]; rfl⟩
  obtain ⟨g1, g2⟩ := szTexts_bd hneg
  have hp : p.length ≤ 1048576 := by omega
  simp only [hneg, decide_false, cond_false]
  generalize szTexts p 1048576 = left at hneg g2
  rw [cq_sn (args' := [.sl shWStep (l.map WStep.enc), .int .i64 left]) rfl (by simp only [sns, S_laws_szWinStepS, sn_cl _ _ (wSteps_cl l), snI, Option.bind_some]) (szWinStepS_ok (n := n + 8) hN l left (by omega) g2 hl hll) rfl, adL_sc rfl]
  simp only [c1_some, u1_list, qBin_lss, bd_some, qB_bool]
  by_cases hneg2 : szWStepS l left < 0
  · exact ⟨_, by simp only [hneg2, decide_true, cond_true]; rfl⟩
  have g3 := szWStepS_le hneg2
  have hlen : l.length ≤ 1048576 := by omega
  simp only [hneg2, decide_false, cond_false]
  have hg := outPW_len p size l
  generalize hO : outPW p size l = g at hg
  have b0 : g.1.pieces.length ≤ 1048576 := by omega
  have b1 : g.1.heard.length ≤ 1048576 := by omega
  have b2 : g.1.line.length ≤ 1048576 := by omega
  have b3 : g.1.held.length ≤ 1048576 := by omega
  have b4 : g.1.has.length ≤ 1048576 := by omega
  have b5 : g.2.1.length ≤ 1048576 := by omega
  have hk1 : ¬ ((1 : Int) + p.length + 2 * l.length < 0) := by omega
  have hk2 : ¬ (totWin 1 g.1 < 0) := by unfold totWin; omega
  have hk3 : ¬ (totWin 1 g.1 + g.2.1.length < 0) := by unfold totWin; omega
  rw [cq_toS (n := n + 8) hN p hp]
  simp only [c1_some, u1_list, c2_some, u2_list, c3_some, u3_list, b2_some, bd_some, List.length_cons, List.length_nil, List.cons_append, List.nil_append, Nat.zero_add, Nat.reduceAdd, List.set_cons_succ, List.set_cons_zero, wM, a7_winOwn, fold_winOwn]
  rw [cq_toWStep (n := n + 7) hN l hlen]
  simp only [c1_some, u1_list, c2_some, u2_list, c3_some, u3_list, b2_some, bd_some, List.length_cons, List.length_nil, List.cons_append, List.nil_append, Nat.zero_add, Nat.reduceAdd, List.set_cons_succ, List.set_cons_zero, wM, a7_winOwn, fold_winOwn]
  rw [Q_pwS hN p size l hp hlen rfl rfl, hO]
  simp only [c1_some, u1_list, c2_some, u2_list, c3_some, u3_list, b2_some, bd_some, List.length_cons, List.length_nil, List.cons_append, List.nil_append, Nat.zero_add, Nat.reduceAdd, List.set_cons_succ, List.set_cons_zero, wM, a7_winOwn, fold_winOwn]
  rw [cq_toS (n := n + 8) hN p hp]
  simp only [c1_some, u1_list, c2_some, u2_list, c3_some, u3_list, b2_some, bd_some, List.length_cons, List.length_nil, List.cons_append, List.nil_append, Nat.zero_add, Nat.reduceAdd, List.set_cons_succ, List.set_cons_zero, wM, a7_winOwn, fold_winOwn]
  rw [cq_toWStep (n := n + 7) hN l hlen]
  simp only [c1_some, u1_list, c2_some, u2_list, c3_some, u3_list, b2_some, bd_some, List.length_cons, List.length_nil, List.cons_append, List.nil_append, Nat.zero_add, Nat.reduceAdd, List.set_cons_succ, List.set_cons_zero, wM, a7_winOwn, fold_winOwn]
  rw [Q_pwI hN p size l hp hlen rfl rfl, hO]
  simp only [c1_some, u1_list, c2_some, u2_list, c3_some, u3_list, b2_some, bd_some, List.length_cons, List.length_nil, List.cons_append, List.nil_append, Nat.zero_add, Nat.reduceAdd, List.set_cons_succ, List.set_cons_zero, wM, a7_winOwn, fold_winOwn]
  rw [Q_eqWin hN g.1 b0 b1 b2 b3 b4 rfl rfl rfl rfl rfl rfl rfl rfl rfl rfl]
  simp only [c1_some, u1_list, c2_some, u2_list, c3_some, u3_list, b2_some, bd_some, List.length_cons, List.length_nil, List.cons_append, List.nil_append, Nat.zero_add, Nat.reduceAdd, List.set_cons_succ, List.set_cons_zero, wM, a7_winOwn, fold_winOwn, qUn_not, qBin_lss, qBin_neq, qBin_bne, qB_bool, Bool.not_true, cond_false, decide_false, beq_self_eq_true, ne_eq, not_true_eq_false]
  rw [cq_eqBool (n := n + 8) hN g.2.1 b5 rfl rfl]
  simp only [c1_some, u1_list, c2_some, u2_list, c3_some, u3_list, b2_some, bd_some, List.length_cons, List.length_nil, List.cons_append, List.nil_append, Nat.zero_add, Nat.reduceAdd, List.set_cons_succ, List.set_cons_zero, wM, a7_winOwn, fold_winOwn, qUn_not, qBin_lss, qBin_neq, qBin_bne, qB_bool, Bool.not_true, cond_false, decide_false, beq_self_eq_true, ne_eq, not_true_eq_false]
  rw [cq_toS (n := n + 8) hN p hp]
  simp only [c1_some, u1_list, c2_some, u2_list, c3_some, u3_list, b2_some, bd_some, List.length_cons, List.length_nil, List.cons_append, List.nil_append, Nat.zero_add, Nat.reduceAdd, List.set_cons_succ, List.set_cons_zero, wM, a7_winOwn, fold_winOwn]
  rw [cq_eqT (n := n + 8) hN p hp rfl rfl]
  simp only [c1_some, u1_list, c2_some, u2_list, c3_some, u3_list, b2_some, bd_some, List.length_cons, List.length_nil, List.cons_append, List.nil_append, Nat.zero_add, Nat.reduceAdd, List.set_cons_succ, List.set_cons_zero, wM, a7_winOwn, fold_winOwn, qUn_not, qBin_lss, qBin_neq, qBin_bne, qB_bool, Bool.not_true, cond_false, decide_false, beq_self_eq_true, ne_eq, not_true_eq_false]
  rw [cq_toWStep (n := n + 7) hN l hlen]
  simp only [c1_some, u1_list, c2_some, u2_list, c3_some, u3_list, b2_some, bd_some, List.length_cons, List.length_nil, List.cons_append, List.nil_append, Nat.zero_add, Nat.reduceAdd, List.set_cons_succ, List.set_cons_zero, wM, a7_winOwn, fold_winOwn]
  rw [cq_eqWStep (n := n + 7) hN l hlen rfl rfl]
  simp only [c1_some, u1_list, c2_some, u2_list, c3_some, u3_list, b2_some, bd_some, List.length_cons, List.length_nil, List.cons_append, List.nil_append, Nat.zero_add, Nat.reduceAdd, List.set_cons_succ, List.set_cons_zero, wM, a7_winOwn, fold_winOwn, qUn_not, qBin_lss, qBin_neq, qBin_bne, qB_bool, Bool.not_true, cond_false, decide_false, beq_self_eq_true, ne_eq, not_true_eq_false]
  rw [markStringS_ok (n := n + 7) hN (id := 8) (b := tB 0 p) rfl rfl rfl rfl hp (by decide) (by decide)]
  simp only [c1_some, u1_list, c2_some, u2_list, c3_some, u3_list, b2_some, bd_some, List.length_cons, List.length_nil, List.cons_append, List.nil_append, Nat.zero_add, Nat.reduceAdd, List.set_cons_succ, List.set_cons_zero, wM, a7_winOwn, fold_winOwn]
  rw [markWinStepS_ok (n := n + 7) hN (id := 9) (b := wStepB l) rfl rfl rfl rfl hlen (by omega) (by omega)]
  simp only [c1_some, u1_list, c2_some, u2_list, c3_some, u3_list, b2_some, bd_some, List.length_cons, List.length_nil, List.cons_append, List.nil_append, Nat.zero_add, Nat.reduceAdd, List.set_cons_succ, List.set_cons_zero, wM, a7_winOwn, fold_winOwn, hk1, qUn_not, qBin_lss, qBin_neq, qBin_bne, qB_bool, Bool.not_true, cond_false, decide_false, beq_self_eq_true, ne_eq, not_true_eq_false]
  rw [Q_eqWin hN g.1 b0 b1 b2 b3 b4 rfl rfl rfl rfl rfl rfl rfl rfl rfl rfl]
  simp only [c1_some, u1_list, c2_some, u2_list, c3_some, u3_list, b2_some, bd_some, List.length_cons, List.length_nil, List.cons_append, List.nil_append, Nat.zero_add, Nat.reduceAdd, List.set_cons_succ, List.set_cons_zero, wM, a7_winOwn, fold_winOwn, qUn_not, qBin_lss, qBin_neq, qBin_bne, qB_bool, Bool.not_true, cond_false, decide_false, beq_self_eq_true, ne_eq, not_true_eq_false]
  rw [cq_eqBool (n := n + 8) hN g.2.1 b5 rfl rfl]
  simp only [c1_some, u1_list, c2_some, u2_list, c3_some, u3_list, b2_some, bd_some, List.length_cons, List.length_nil, List.cons_append, List.nil_append, Nat.zero_add, Nat.reduceAdd, List.set_cons_succ, List.set_cons_zero, wM, a7_winOwn, fold_winOwn, qUn_not, qBin_lss, qBin_neq, qBin_bne, qB_bool, Bool.not_true, cond_false, decide_false, beq_self_eq_true, ne_eq, not_true_eq_false]
  rw [markWindow_ok (n := n + 6) hN g.1 1 (by decide) (by decide) b0 b1 b2 b3 b4 rfl rfl rfl rfl rfl]
  simp only [c1_some, u1_list, c2_some, u2_list, c3_some, u3_list, b2_some, bd_some, List.length_cons, List.length_nil, List.cons_append, List.nil_append, Nat.zero_add, Nat.reduceAdd, List.set_cons_succ, List.set_cons_zero, wM, a7_winOwn, fold_winOwn]
  rw [markBoolS_ok (n := n + 8) hN (id := 15) (b := boolB g.2.1) rfl rfl rfl rfl b5 (by unfold totWin; omega) (by unfold totWin; omega)]
  simp only [c1_some, u1_list, c2_some, u2_list, c3_some, u3_list, b2_some, bd_some, List.length_cons, List.length_nil, List.cons_append, List.nil_append, Nat.zero_add, Nat.reduceAdd, List.set_cons_succ, List.set_cons_zero, wM, a7_winOwn, fold_winOwn]
  rw [Q_heldWin hN g.1 1 (by decide) (by decide) b0 b1 b2 b3 b4 rfl rfl rfl rfl rfl]
  simp only [c1_some, u1_list, c2_some, u2_list, c3_some, u3_list, b2_some, bd_some, List.length_cons, List.length_nil, List.cons_append, List.nil_append, Nat.zero_add, Nat.reduceAdd, List.set_cons_succ, List.set_cons_zero, wM, a7_winOwn, fold_winOwn, hk2, qUn_not, qBin_lss, qBin_neq, qBin_bne, qB_bool, Bool.not_true, cond_false, decide_false, beq_self_eq_true, ne_eq, not_true_eq_false]
  rw [Q_heldB hN g.2.1.length b5 (totWin 1 g.1) (by unfold totWin; omega) (by unfold totWin; omega) rfl]
  simp only [c1_some, u1_list, c2_some, u2_list, c3_some, u3_list, b2_some, bd_some, List.length_cons, List.length_nil, List.cons_append, List.nil_append, Nat.zero_add, Nat.reduceAdd, List.set_cons_succ, List.set_cons_zero, wM, a7_winOwn, fold_winOwn, hk3, qUn_not, qBin_lss, qBin_neq, qBin_bne, qB_bool, Bool.not_true, cond_false, decide_false, beq_self_eq_true, ne_eq, not_true_eq_false]
  rw [cq_toS (n := n + 8) hN p hp]
  simp only [c1_some, u1_list, c2_some, u2_list, c3_some, u3_list, b2_some, bd_some, List.length_cons, List.length_nil, List.cons_append, List.nil_append, Nat.zero_add, Nat.reduceAdd, List.set_cons_succ, List.set_cons_zero, wM, a7_winOwn, fold_winOwn]
  rw [cq_toWStep (n := n + 7) hN l hlen]
  simp only [c1_some, u1_list, c2_some, u2_list, c3_some, u3_list, b2_some, bd_some, List.length_cons, List.length_nil, List.cons_append, List.nil_append, Nat.zero_add, Nat.reduceAdd, List.set_cons_succ, List.set_cons_zero, wM, a7_winOwn, fold_winOwn]
  rw [Q_pwI hN p size l hp hlen rfl rfl, hO]
  simp only [c1_some, u1_list, c2_some, u2_list, c3_some, u3_list, b2_some, bd_some, List.length_cons, List.length_nil, List.cons_append, List.nil_append, Nat.zero_add, Nat.reduceAdd, List.set_cons_succ, List.set_cons_zero, wM, a7_winOwn, fold_winOwn]
  rw [Q_eqWin hN g.1 b0 b1 b2 b3 b4 rfl rfl rfl rfl rfl rfl rfl rfl rfl rfl]
  simp only [c1_some, u1_list, c2_some, u2_list, c3_some, u3_list, b2_some, bd_some, List.length_cons, List.length_nil, List.cons_append, List.nil_append, Nat.zero_add, Nat.reduceAdd, List.set_cons_succ, List.set_cons_zero, wM, a7_winOwn, fold_winOwn, qUn_not, qBin_lss, qBin_neq, qBin_bne, qB_bool, Bool.not_true, cond_false, decide_false, beq_self_eq_true, ne_eq, not_true_eq_false]
  rw [cq_eqBool (n := n + 8) hN g.2.1 b5 rfl rfl]
  simp only [c1_some, u1_list, c2_some, u2_list, c3_some, u3_list, b2_some, bd_some, List.length_cons, List.length_nil, List.cons_append, List.nil_append, Nat.zero_add, Nat.reduceAdd, List.set_cons_succ, List.set_cons_zero, wM, a7_winOwn, fold_winOwn, qUn_not, qBin_lss, qBin_neq, qBin_bne, qB_bool, Bool.not_true, cond_false, decide_false, beq_self_eq_true, ne_eq, not_true_eq_false]
  rw [Q_heldWin hN g.1 1 (by decide) (by decide) b0 b1 b2 b3 b4 rfl rfl rfl rfl rfl]
  simp only [c1_some, u1_list, c2_some, u2_list, c3_some, u3_list, b2_some, bd_some, List.length_cons, List.length_nil, List.cons_append, List.nil_append, Nat.zero_add, Nat.reduceAdd, List.set_cons_succ, List.set_cons_zero, wM, a7_winOwn, fold_winOwn, hk2, qUn_not, qBin_lss, qBin_neq, qBin_bne, qB_bool, Bool.not_true, cond_false, decide_false, beq_self_eq_true, ne_eq, not_true_eq_false]
  rw [Q_heldB hN g.2.1.length b5 (totWin 1 g.1) (by unfold totWin; omega) (by unfold totWin; omega) rfl]
  simp only [c1_some, u1_list, c2_some, u2_list, c3_some, u3_list, b2_some, bd_some, List.length_cons, List.length_nil, List.cons_append, List.nil_append, Nat.zero_add, Nat.reduceAdd, List.set_cons_succ, List.set_cons_zero, wM, a7_winOwn, fold_winOwn, hk3, qUn_not, qBin_lss, qBin_neq, qBin_bne, qB_bool, Bool.not_true, cond_false, decide_false, beq_self_eq_true, ne_eq, not_true_eq_false]
  exact ⟨_, rfl⟩
end
end Go.Lg.Pv.Q
namespace Go.Proofs.Ytdiilljbojhpoaa.fnExactPlayWindow
open Go.ChangeShapes Go.WideShapes Go.ChangeAt Go.RowKit
open Go.ChangeMaps (open_string shut_string)
open Go.Lg Go.Lg.Pv Go.Lg.Pv.Q
set_option linter.unusedVariables false
set_option linter.unusedSimpArgs false
set_option maxRecDepth 100000
theorem own : ownKnob Try.prog.godebug = Option.none := by kernel_rfl
theorem laidOut : laidOutB Try.prog = true := by kernel_rfl
structure StrK where
  v : ByteArray
instance : Enc StrK where
  enc z := [.string z.v]
  good z := (z.v.size : Int) ≤ 9223372036854775807
  esz := 1
  eagg := false
  epos := by decide
  esc _ := rfl
  elen _ := rfl
  eones _ := fun v hv => by simp at hv; rcases hv with rfl; rfl
  edflt := ⟨⟨#[]⟩⟩
  egood := by decide
theorem elem_9 {H : Type} {enc : TypeId × Value → H} {w : World} {base : Nat} {spare : Nat → Bool} {held : Bool} (fuel : Nat) (cs : List Value) (x : DataW H × List MemPlace)
    (h : DataW.trod enc Try.prog w base spare held fuel 9 cs = some x) : ∃ y : StrK, cs = Enc.enc y ∧ Enc.good y := by
  obtain ⟨m, e, _, g⟩ := DataW.trod_string Try.underlying9 h
  exact ⟨⟨m⟩, e, len_str g⟩
/-- WinStep, as it comes in -/
structure WStepK where
  r : Pv.Q.WStep
instance : Enc WStepK where
  enc z := [.int .i64 z.r.kind, .int .i64 z.r.k]
  good z := z.r.ok
  esz := 2
  eagg := true
  epos := by decide
  esc h := by cases h
  elen _ := rfl
  eones _ := fun v hv => by simp at hv; rcases hv with rfl | rfl <;> rfl
  edflt := ⟨⟨0, 0⟩⟩
  egood := ⟨by constructor <;> decide, by constructor <;> decide⟩
theorem elem_70 {H : Type} {enc : TypeId × Value → H} {w : World} {base : Nat} {spare : Nat → Bool} {held : Bool} (fuel : Nat) (cs : List Value) (x : DataW H × List MemPlace)
    (h : DataW.trod enc Try.prog w base spare held fuel 70 cs = some x) : ∃ y : WStepK, cs = Enc.enc y ∧ Enc.good y := by
  obtain ⟨xs, n, rfl, _, hl, hx, hf⟩ := DataW.trod_struct Try.underlying70 h
  have hc : Try.prog.cellsOf 70 = 2 := by kernel_rfl
  rw [hc] at hl
  match cs, hl with
  | [ce0, ce1], _ =>
    have f0 : DataW.trod enc Try.prog w base spare held n 3 (([ce0, ce1].drop 0).take (Try.prog.cellsOf 3)) = xs[0]? := hf 0 _ rfl
    rw [show Try.prog.cellsOf 3 = 1 from by kernel_rfl, List.getElem?_eq_getElem (by rw [hx]; decide)] at f0
    have f1 : DataW.trod enc Try.prog w base spare held n 3 (([ce0, ce1].drop 1).take (Try.prog.cellsOf 3)) = xs[1]? := hf 1 _ rfl
    rw [show Try.prog.cellsOf 3 = 1 from by kernel_rfl, List.getElem?_eq_getElem (by rw [hx]; decide)] at f1
    obtain ⟨m0, e0, _, g0⟩ := DataW.trod_int Try.underlying3 f0
    have e0' : [ce0] = [.int .i64 m0] := e0
    cases e0'
    obtain ⟨m1, e1, _, g1⟩ := DataW.trod_int Try.underlying3 f1
    have e1' : [ce1] = [.int .i64 m1] := e1
    cases e1'
    exact ⟨⟨⟨m0, m1⟩⟩, rfl, ⟨wf_inI g0, wf_inI g1⟩⟩
theorem open0 {H : Type} {enc : TypeId × Value → H} {spare : Nat → Bool} {held : Bool} {base base2 : Nat} (w : World) (v : Value) {d : DataW H} {p : List MemPlace} (hv : Value.okWide Try.prog w .any base2 23 v) (h : DataW.Trod enc Try.prog w base spare held 23 v d p) :
    ∃ l : List ByteArray, (∀ y ∈ l, (y.size : Int) ≤ 9223372036854775807) ∧ (l.length : Int) ≤ 9223372036854775807 ∧ OpensA w v (.sl [.sc] (l.map DV.str)) := by
  obtain ⟨fuel, hf⟩ := h
  simp only [Value.okWide, Try.underlying23] at hv
  cases v <;> try (simp [Cell.okWide, Try.underlying23, Cell.ok] at hv; done)
  rename_i sa sn sc
  obtain ⟨z0, gz0, lz0, op0⟩ := opens_list (α := StrK) (e := 9) elem_9 (fun y c hc => by
      simp only [Enc.enc, List.mem_cons, List.not_mem_nil, or_false] at hc
      rcases hc with rfl <;> rfl) (fun y c hc => by
      simp only [Enc.enc, List.mem_cons, List.not_mem_nil, or_false] at hc
      rcases hc with rfl <;> rfl) (by kernel_rfl) Try.underlying23 (f := fun x => DV.str x.v) (sh := [.sc]) (fun x => rfl) rfl hf (spot_ok Try.underlying23 hv)
  have hm0 : z0.map (fun x => DV.str x.v) = (z0.map (fun x => x.v)).map DV.str := by rw [List.map_map]; rfl
  rw [hm0] at op0
  have gz0' : ∀ y ∈ z0.map (fun x => x.v), (y.size : Int) ≤ 9223372036854775807 := fun y hy => by
    obtain ⟨x, hx, rfl⟩ := List.mem_map.1 hy
    exact gz0 x hx
  have lz0' : ((z0.map (fun x => x.v)).length : Int) ≤ 9223372036854775807 := by rw [List.length_map]; exact lz0
  generalize z0.map (fun x => x.v) = y0 at op0 gz0' lz0'
  exact ⟨y0, gz0', lz0', op0.one⟩
theorem open1 {H : Type} {enc : TypeId × Value → H} {spare : Nat → Bool} {held : Bool} {base base2 : Nat} (w : World) (v : Value) {d : DataW H} {p : List MemPlace} (hv : Value.okWide Try.prog w .any base2 3 v) (h : DataW.Trod enc Try.prog w base spare held 3 v d p) :
    True := trivial
theorem open2 {H : Type} {enc : TypeId × Value → H} {spare : Nat → Bool} {held : Bool} {base base2 : Nat} (w : World) (v : Value) {d : DataW H} {p : List MemPlace} (hv : Value.okWide Try.prog w .any base2 57 v) (h : DataW.Trod enc Try.prog w base spare held 57 v d p) :
    ∃ l : List Pv.Q.WStep, (∀ y ∈ l, y.ok) ∧ (l.length : Int) ≤ 9223372036854775807 ∧ OpensA w v (.sl shWStep (l.map WStep.enc)) := by
  obtain ⟨fuel, hf⟩ := h
  simp only [Value.okWide, Try.underlying57] at hv
  cases v <;> try (simp [Cell.okWide, Try.underlying57, Cell.ok] at hv; done)
  rename_i sa sn sc
  obtain ⟨z0, gz0, lz0, op0⟩ := opens_list (α := WStepK) (e := 70) elem_70 (fun y c hc => by
      simp only [Enc.enc, List.mem_cons, List.not_mem_nil, or_false] at hc
      rcases hc with rfl | rfl <;> rfl) (fun y c hc => by
      simp only [Enc.enc, List.mem_cons, List.not_mem_nil, or_false] at hc
      rcases hc with rfl | rfl <;> rfl) (by kernel_rfl) Try.underlying57 (f := fun x => x.r.enc) (sh := shWStep) (fun x => rfl) rfl hf (spot_ok Try.underlying57 hv)
  have hm0 : z0.map (fun x => x.r.enc) = (z0.map (fun x => x.r)).map WStep.enc := by rw [List.map_map]; rfl
  rw [hm0] at op0
  have gz0' : ∀ y ∈ z0.map (fun x => x.r), y.ok := fun y hy => by
    obtain ⟨x, hx, rfl⟩ := List.mem_map.1 hy
    exact gz0 x hx
  have lz0' : ((z0.map (fun x => x.r)).length : Int) ≤ 9223372036854775807 := by rw [List.length_map]; exact lz0
  generalize z0.map (fun x => x.r) = y0 at op0 gz0' lz0'
  exact ⟨y0, gz0', lz0', op0.one⟩
theorem walk {H : Type} {enc : TypeId × Value → H} {spare : Nat → Bool} {held : Bool} {base base2 : Nat} (w : World) (v0 v1 v2 : Value) {d0 : DataW H} {p0 : List MemPlace} {d1 : DataW H} {p1 : List MemPlace} {d2 : DataW H} {p2 : List MemPlace} (hv0 : Value.okWide Try.prog w .any base2 23 v0) (h0 : DataW.Trod enc Try.prog w base spare held 23 v0 d0 p0) (hv1 : Value.okWide Try.prog w .any base2 3 v1) (h1 : DataW.Trod enc Try.prog w base spare held 3 v1 d1 p1) (hv2 : Value.okWide Try.prog w .any base2 57 v2) (h2 : DataW.Trod enc Try.prog w base spare held 57 v2 d2 p2) :
    Calls Try.prog 5 #[v0, v1, v2] w fun e w' => e = .returned (.bool true) ∧ Below w.heap.size w w' := by
  obtain ⟨b0, ok0, len0, op0⟩ := open0 w v0 hv0 h0
  obtain ⟨b1, rfl, rfl, rfl, ok1⟩ := open_int Try.underlying3 hv1 h1
  obtain ⟨b2, ok2, len2, op2⟩ := open2 w v2 hv2 h2
  exact law_open envE eqE (goodOf (tis := tis) rfl (by kernel_rfl)) clOk (.cons op0 (.cons ((Opens.int w .i64 b1).one) (.cons op2 (.nil)))) (law_pw (N := 4294967296) (n := 0) (by decide) b0 ok0 len0 b1 (wf_inI ok1) b2 ok2 len2)
theorem lifted (os : Os) (started : os.Started) (H : Type) (enc : TypeId × Value → H) :
    ReturnsInHanded {} Try.checked os 5 .any (Rows.fnExactPlayWindowSpec.pre6 enc Try.prog Try.f5 Rows.fnExactPlayWindowRow.domain false) (Rows.fnExactPlayWindowSpec.post enc Try.prog Try.f5 false true false false) := by
  refine returnsInHanded_of_change_sized (C := Try.checked) own started (by kernel_rfl) Try.func5
    (ChangeSpec.witness6 (enc := enc) (C := Try.checked) false ⟨#[], #[.slice Option.none 0 0, .int .i64 0, .slice Option.none 0 0], []⟩ 8 (by kernel_rfl) (by kernel_rfl) (by kernel_rfl) (by kernel_rfl)) ?_
  intro W base args ds gs before hval0 hW hcnd hsz0 _
  have hval : ∀ (j : Nat) t v, Try.f5.params[j]? = some t → args[j]? = some v → Value.okWide Try.prog W .any base t v := hval0
  have hW' := hW
  obtain ⟨p, q, hA0, hV, rfl, hfz, hnd⟩ := hW
  have hA : DataW.TrodAll enc Try.prog W 0 (fun _ => true) true Try.f5.params.toList args.toList ds p := hA0
  rw [Try.params5] at hA hval
  obtain ⟨v0, vs0, d0, ds0, p0, q0, hargs, rfl, rfl, h0, r0⟩ := trodAll_cons hA
  obtain ⟨v1, vs1, d1, ds1, p1, q1, rfl, rfl, rfl, h1, r1⟩ := trodAll_cons r0
  obtain ⟨v2, vs2, d2, ds2, p2, q2, rfl, rfl, rfl, h2, r2⟩ := trodAll_cons r1
  obtain ⟨rfl, rfl, rfl⟩ := trodAll_nil r2
  obtain rfl : args = #[v0, v1, v2] := by cases args; simp_all
  obtain ⟨rfl, rfl⟩ := trodVars_none hV
  have k0 := h0
  have lt0 : ∀ x ∈ p0, x.block < W.heap.size := by obtain ⟨m, hm⟩ := k0; exact DataW.trod_lt m _ _ _ hm
  have k1 := h1
  have lt1 : ∀ x ∈ p1, x.block < W.heap.size := by obtain ⟨m, hm⟩ := k1; exact DataW.trod_lt m _ _ _ hm
  have k2 := h2
  have lt2 : ∀ x ∈ p2, x.block < W.heap.size := by obtain ⟨m, hm⟩ := k2; exact DataW.trod_lt m _ _ _ hm
  refine (walk W v0 v1 v2 (hval 0 23 v0 rfl rfl) h0 (hval 1 3 v1 rfl rfl) h1 (hval 2 57 v2 rfl rfl) h2).mono fun e W' ⟨he, bel⟩ => ?_
  subst he
  exact ⟨_, rfl, _, _, _, [], _, [], hW', trodAll_mk1 (shut_bool Try.underlying4 _), (trodAll_cons_mk (Below.trod laidOut (by kernel_rfl) (of_decide_eq_true (by kernel_rfl)) k0 bel lt0) (trodAll_cons_mk (Below.trod laidOut (by kernel_rfl) (of_decide_eq_true (by kernel_rfl)) k1 bel lt1) (trodAll_cons_mk (Below.trod laidOut (by kernel_rfl) (of_decide_eq_true (by kernel_rfl)) k2 bel lt2) trodAll_mk0))), rfl, bel.frame _, fun h => by cases h⟩
theorem over : Rows.fnExactPlayWindowRow.holds Try.pinned (OpenSpec.ofChange Rows.fnExactPlayWindowSpec) :=
  OpenClaim.holds_of_wide 5 Try.f5 rfl rfl rfl rfl rfl rfl rfl ⟨rfl, rfl, rfl, rfl, rfl⟩ rfl rfl rfl rfl rfl (by kernel_rfl) Try.func5 (by kernel_rfl)
    (of_decide_eq_true (by kernel_rfl)) (by unfold Func.isWrapper; first | (rw [if_pos (by decide +kernel)]; kernel_rfl) | (rw [if_neg (by decide +kernel)]; exact ⟨rfl, rfl⟩))
    (fun os started H enc _ => lifted os started H enc)
theorem proved : Rows.FnExactPlayWindowSaid := over
end Go.Proofs.Ytdiilljbojhpoaa.fnExactPlayWindow
namespace Go.Proofs.Ytdiilljbojhpoaa
theorem fnExactPlayWindow_holds : Rows.FnExactPlayWindowSaid := fnExactPlayWindow.proved
end Go.Proofs.Ytdiilljbojhpoaa
#print axioms Go.Proofs.Ytdiilljbojhpoaa.fnExactPlayWindow_holds
