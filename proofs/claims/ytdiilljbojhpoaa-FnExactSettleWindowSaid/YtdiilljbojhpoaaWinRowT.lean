/- FnExactSettleWindow returns true whatever window it is handed, and what it was handed reads behind the call as it read before: no condition. -/
import Derived.Test.YtdiilljbojhpoaaWinRowTA
import Derived.Test.YtdiilljbojhpoaaRows
import Derived.WalkKit
import Derived.ProofKit
import Derived.OpenShut
import Derived.ShutString
import Derived.ChangeOld
import Derived.Below
import Derived.SizedLaws
namespace Go.Lg.Pv.Q
open Go Go.Lg Go.Lg.Pv
set_option linter.unusedVariables false
set_option linter.unusedSimpArgs false
set_option maxRecDepth 100000

/-! what was done, as it grows -/
/-- nil, or a block of its own -/
inductive DN (μ : PH) : Nat → DV → List Bool → Prop where
  | nil (k : Nat) : DN μ k .nil []
  | own (k ver n : Nat) (d : List Bool) : bk μ k ver = some ⟨ver, [.sc], d.map eBool, true, false, true⟩ → n = d.length → DN μ k (.own k ver 0 n n false) d
theorem bsB (μ : PH) (b : Bool) : qBS μ true [.sc] false [.bool false] 1 1 [(0, .bool b)] = some (.sl [.sc] [.bool b], μ) := rfl
theorem DN.app {μ : PH} {k : Nat} {x : DV} {d : List Bool} (h : DN μ k x d) (hk : x = .nil → k = μ.length) (hd : d.length ≤ 1000) (b : Bool) :
    ∃ x' μ', qAp μ false [.sc] 1 1 x (.sl [.sc] [.bool b]) = some (x', μ') ∧ DN μ' k x' (d ++ [b]) ∧ x' ≠ .nil ∧ (∀ j, j ≠ k → j < μ.length → μ'[j]? = μ[j]?) ∧ μ.length ≤ μ'.length := by
  cases h with
  | nil =>
    have hk := hk rfl
    subst hk
    refine ⟨.own μ.length 1 0 1 1 false, μ ++ [⟨1, [.sc], [.bool b], true, false, true⟩], rfl, .own _ _ _ _ (by simp [bk]) rfl, by simp, fun j _ hj => by rw [List.getElem?_append_left hj], by simp⟩
  | own ver n _ hb hn =>
    have ha := qAp_up1 (by_ := 1) (z := 1) (sh := [.sc]) (e := .bool b) (c := n) (o := 0) (n := n) hb rfl rfl rfl rfl rfl (by omega) (by decide) (by omega) (by omega)
    refine ⟨_, _, ha, ?_, by simp, fun j hj _ => by rw [List.getElem?_set_ne (fun h => hj h.symm)], by rw [List.length_set]; exact Nat.le_refl _⟩
    have he : (List.take n (List.drop 0 (d.map eBool)) ++ [DV.bool b]) = (d ++ [b]).map eBool := by
      rw [List.drop_zero, List.take_of_length_le (by rw [List.length_map]; omega), List.map_append]; rfl
    show DN (μ.set k ⟨ver + 1, [.sc], List.take n (List.drop 0 (d.map eBool)) ++ [DV.bool b], true, false, true⟩) k _ _
    rw [he]
    exact .own _ _ _ _ (bk_set (b := ⟨ver + 1, [.sc], (d ++ [b]).map eBool, true, false, true⟩) (bk_lt hb) rfl) (by simp [hn])
theorem DN.mono {μ μ' : PH} {k : Nat} {x : DV} {d : List Bool} (h : DN μ k x d) (he : x ≠ .nil → μ'[k]? = μ[k]?) : DN μ' k x d := by
  cases h with
  | nil => exact .nil k
  | own ver n _ hb hn => exact .own _ _ _ _ (by unfold bk at hb ⊢; rw [he (by simp)]; exact hb) hn
theorem DN.lt {μ : PH} {k : Nat} {x : DV} {d : List Bool} (h : DN μ k x d) (hx : x ≠ .nil) : k < μ.length := by
  cases h with
  | nil => exact absurd rfl hx
  | own ver n _ hb _ => exact bk_lt hb
theorem DN.tk {μ : PH} {k : Nat} {x : DV} {d : List Bool} (h : DN μ k x d) : ∃ μ', tkC μ (.sl [.sc]) x = some (.sl [.sc] (d.map eBool), μ') := by
  cases h with
  | nil => exact ⟨μ, rfl⟩
  | own ver n _ hb hn =>
    have t := tk_own (s := .sl [.sc]) (x := false) (c := n) (o := 0) (n := n) hb rfl rfl (e := d.map eBool) (by rw [List.drop_zero]; exact List.take_of_length_le (by rw [List.length_map]; omega)) (eBool_cl d)
    exact ⟨_, t⟩

theorem qMS_n {μ : PH} {sh : List Sh} {agg : Bool} {zero : List DV} {size bytes n : Nat} (hn : (n : Int) * bytes ≤ 140737488355328) (h1 : n ≤ 1048576) (hz : zero.length = size) (hs : sh.length = size) (ha : agg = true ∨ size = 1) (hok : zero.all okC = true) :
    qMS μ sh agg zero size bytes (.int .i64 n) (.int .i64 n) = some (.own μ.length 0 0 n n true, μ ++ [⟨0, sh, List.replicate n (elemD agg (nzL sh zero)), true, false, true⟩]) := by
  simp only [qMS]
  rw [if_pos ⟨by omega, by omega, hn, by omega, hz, hs, ha, hok⟩]
  simp only [Int.toNat_natCast]
def newWin (p : List ByteArray) (size : Int) : Win := ⟨p, size, List.replicate p.length false, [], List.replicate p.length ⟨#[]⟩, List.replicate p.length false, 0⟩
def outN (p : List ByteArray) (size : Int) : Win × Bool := if arePc p = true ∧ 1 ≤ size ∧ size ≤ 12 then (newWin p size, true) else (win0, false)
theorem newWin_ok {p : List ByteArray} {size : Int} (h : arePc p = true ∧ 1 ≤ size ∧ size ≤ 12) : WOk (newWin p size) := by
  have hp : p.length ≤ 12 := by
    have := h.1; unfold arePc at this; simp only [Bool.and_eq_true, decide_eq_true_eq] at this; omega
  exact ⟨by simp [newWin], by simp [newWin], by simp [newWin], by simp only [newWin]; omega, h.2.1, h.2.2, by simp [newWin], fun f hf => by simp [newWin] at hf⟩
/-- the blocks of a new window -/
def nM (n : Nat) (b4 : PB) : PH := [wB wZ, boolB (List.replicate n false), tB 0 (List.replicate n ⟨#[]⟩), boolB (List.replicate n false), b4]
theorem resNew {p : List ByteArray} {size : Int} {v : Nat} {c0 : PB} {rs : List (List Sh)} {tl : List DV} {tl' : List DV} {rs' : List (List Sh)} (hrs : rs = shWin :: rs') (ht : ∀ ν, ∃ ν', resO rs' tl ν = some (tl', ν')) :
    ∃ ν', resO rs (.agg [.own 4 v 0 p.length p.length false, .int .i64 size, .own 1 0 0 p.length p.length true, .own 5 0 0 0 0 false, .own 2 0 0 p.length p.length true, .own 3 0 0 p.length p.length true, .int .i64 0] :: tl)
      [c0, boolB (List.replicate p.length false), tB 0 (List.replicate p.length ⟨#[]⟩), boolB (List.replicate p.length false), tB v p, ⟨0, shFrm, [], true, false, true⟩] = some ((newWin p size).enc :: tl', ν') := by
  subst hrs
  have g0 : bk [c0, boolB (List.replicate p.length false), tB 0 (List.replicate p.length ⟨#[]⟩), boolB (List.replicate p.length false), tB v p, ⟨0, shFrm, [], true, false, true⟩] 4 v = some (tB v p) := by simp [bk, tB]
  have e0 := tk_own (s := .sl [.sc]) (x := false) (c := p.length) g0 rfl rfl (own_all (b := tB v p) (l := p.map DV.str) (n := p.length) rfl (by simp)) (txt_cl p)
  generalize hM : kl [c0, boolB (List.replicate p.length false), tB 0 (List.replicate p.length ⟨#[]⟩), boolB (List.replicate p.length false), tB v p, ⟨0, shFrm, [], true, false, true⟩] 4 = M1 at e0
  have g1 : bk M1 1 0 = some (boolB (List.replicate p.length false)) := by rw [← hM, kl_ne (by decide)]; rfl
  have e1 := tk_own (s := .sl [.sc]) (x := true) (c := p.length) (n := p.length) g1 rfl rfl (own_all (b := boolB (List.replicate p.length false)) (l := (List.replicate p.length false).map eBool) (n := p.length) rfl (by simp)) (eBool_cl _)
  have g2 : bk (kl M1 1) 5 0 = some ⟨0, shFrm, [], true, false, true⟩ := by rw [kl_ne (by decide), ← hM, kl_ne (by decide)]; rfl
  have e2 : tkC (kl M1 1) (.sl shFrm) (.own 5 0 0 0 0 false) = some (.sl shFrm [], kl (kl M1 1) 5) := tk_own (s := .sl shFrm) (x := false) (c := 0) (o := 0) (n := 0) g2 rfl rfl rfl rfl
  have g3 : bk (kl (kl M1 1) 5) 2 0 = some (tB 0 (List.replicate p.length ⟨#[]⟩)) := by rw [kl_ne (by decide), kl_ne (by decide), ← hM, kl_ne (by decide)]; rfl
  have e3 := tk_own (s := .sl [.sc]) (x := true) (c := p.length) (n := p.length) g3 rfl rfl (own_all (b := tB 0 (List.replicate p.length ⟨#[]⟩)) (l := (List.replicate p.length (⟨#[]⟩ : ByteArray)).map DV.str) (n := p.length) rfl (by simp)) (txt_cl _)
  have g4 : bk (kl (kl (kl M1 1) 5) 2) 3 0 = some (boolB (List.replicate p.length false)) := by rw [kl_ne (by decide), kl_ne (by decide), kl_ne (by decide), ← hM, kl_ne (by decide)]; rfl
  have e4 := tk_own (s := .sl [.sc]) (x := true) (c := p.length) (n := p.length) g4 rfl rfl (own_all (b := boolB (List.replicate p.length false)) (l := (List.replicate p.length false).map eBool) (n := p.length) rfl (by simp)) (eBool_cl _)
  have e : ∀ (μ : PH) (s : Sh) (k : IntKind) (a : Int), tkC μ s (.int k a) = some (.int k a, μ) := fun _ _ _ _ => rfl
  obtain ⟨ν', ht⟩ := ht (kl (kl (kl (kl M1 1) 5) 2) 3)
  refine ⟨ν', ?_⟩
  simp only [resO, onS, zipS, List.headD_cons, List.tail_cons, e0, e1, e2, e3, e4, e, Option.bind_some, Option.map_some, ht]
  rfl
theorem mkB (n : Nat) : (⟨0, [.sc], List.replicate n (elemD false (nzL [.sc] [.bool false])), true, false, true⟩ : PB) = boolB (List.replicate n false) := by simp [boolB, elemD, nzL, nz]
theorem mkT (n : Nat) : (⟨0, [.sc], List.replicate n (elemD false (nzL [.sc] [.str ⟨#[]⟩])), true, false, true⟩ : PB) = tB 0 (List.replicate n ⟨#[]⟩) := by simp [tB, elemD, nzL, nz]
theorem bNewO (i0 v0 n0 c0 i1 n1 c1 i2 n2 c2 i3 n3 c3 : Nat) (x0 x1 x2 x3 : Bool) (b : Int) : qBuild [.nil, .int .i64 0, .nil, .nil, .nil, .nil, .int .i64 0] [(0, 1, false), (1, 1, false), (2, 1, false), (3, 1, false), (4, 1, false), (5, 1, false), (6, 1, false)] [(0, .own i0 v0 0 n0 c0 x0), (1, .int .i64 b), (2, .own i1 0 0 n1 c1 x1), (4, .own i2 0 0 n2 c2 x2), (5, .own i3 0 0 n3 c3 x3)] =
    some (.agg [.own i0 v0 0 n0 c0 x0, .int .i64 b, .own i1 0 0 n1 c1 x1, .nil, .own i2 0 0 n2 c2 x2, .own i3 0 0 n3 c3 x3, .int .i64 0]) := rfl
theorem bNewE (i1 n1 c1 i2 n2 c2 i3 n3 c3 : Nat) (x1 x2 x3 : Bool) (b : Int) : qBuild [.nil, .int .i64 0, .nil, .nil, .nil, .nil, .int .i64 0] [(0, 1, false), (1, 1, false), (2, 1, false), (3, 1, false), (4, 1, false), (5, 1, false), (6, 1, false)] [(0, .e0 1), (1, .int .i64 b), (2, .own i1 0 0 n1 c1 x1), (4, .own i2 0 0 n2 c2 x2), (5, .own i3 0 0 n3 c3 x3)] =
    some (.agg [.e0 1, .int .i64 b, .own i1 0 0 n1 c1 x1, .nil, .own i2 0 0 n2 c2 x2, .own i3 0 0 n3 c3 x3, .int .i64 0]) := rfl
theorem stNew (v n : Nat) (size : Int) (b4 : PB) : qSt (nM n b4) 7 (.ptr 0 0 0 0) (.agg [.own 4 v 0 n n false, .int .i64 size, .own 1 0 0 n n true, .nil, .own 2 0 0 n n true, .own 3 0 0 n n true, .int .i64 0]) =
    some [wB [.own 4 v 0 n n false, .int .i64 size, .own 1 0 0 n n true, .sl shFrm [], .own 2 0 0 n n true, .own 3 0 0 n n true, .int .i64 0], boolB (List.replicate n false), tB 0 (List.replicate n ⟨#[]⟩), boolB (List.replicate n false), b4] := rfl
theorem ldNew (v n : Nat) (size : Int) (b1 b2 b3 b4 : PB) : qLd [wB [.own 4 v 0 n n false, .int .i64 size, .own 1 0 0 n n true, .sl shFrm [], .own 2 0 0 n n true, .own 3 0 0 n n true, .int .i64 0], b1, b2, b3, b4] 7 true (.ptr 0 0 0 0) =
    some (.agg [.own 4 v 0 n n false, .int .i64 size, .own 1 0 0 n n true, .own 5 0 0 0 0 false, .own 2 0 0 n n true, .own 3 0 0 n n true, .int .i64 0], [wB [.own 4 v 0 n n false, .int .i64 size, .own 1 0 0 n n true, .own 5 0 0 0 0 false, .own 2 0 0 n n true, .own 3 0 0 n n true, .int .i64 0], b1, b2, b3, b4, ⟨0, shFrm, [], true, false, true⟩]) := rfl
theorem stNew0 (size : Int) (b1 b2 b3 : PB) : qSt [wB wZ, b1, b2, b3] 7 (.ptr 0 0 0 0) (.agg [.e0 1, .int .i64 size, .own 1 0 0 0 0 true, .nil, .own 2 0 0 0 0 true, .own 3 0 0 0 0 true, .int .i64 0]) =
    some [wB [.sl [.sc] [], .int .i64 size, .own 1 0 0 0 0 true, .sl shFrm [], .own 2 0 0 0 0 true, .own 3 0 0 0 0 true, .int .i64 0], b1, b2, b3] := rfl
theorem ldNew0 (size : Int) (b1 b2 b3 : PB) : qLd [wB [.sl [.sc] [], .int .i64 size, .own 1 0 0 0 0 true, .sl shFrm [], .own 2 0 0 0 0 true, .own 3 0 0 0 0 true, .int .i64 0], b1, b2, b3] 7 true (.ptr 0 0 0 0) =
    some (.agg [.own 4 0 0 0 0 false, .int .i64 size, .own 1 0 0 0 0 true, .own 5 0 0 0 0 false, .own 2 0 0 0 0 true, .own 3 0 0 0 0 true, .int .i64 0], [wB [.own 4 0 0 0 0 false, .int .i64 size, .own 1 0 0 0 0 true, .own 5 0 0 0 0 false, .own 2 0 0 0 0 true, .own 3 0 0 0 0 true, .int .i64 0], b1, b2, b3, tB 0 [], ⟨0, shFrm, [], true, false, true⟩]) := rfl
theorem newwI {N n : Nat} (p : List ByteArray) (size : Int) (hp : p.length ≤ 1048576) : run1 S_impl_newWindow (qfn P N (n + 2) n_impl_newWindow) [.sl [.sc] (p.map DV.str), .int .i64 size] = some ([(newWin p size).enc], []) := by
  refine run1_ex rfl rfl rfl ?_
  rw [impl_newWindow_eq]
  unfold P_impl_newWindow
  have m1 := qMS_n (μ := [wB wZ]) (sh := [.sc]) (agg := false) (zero := [.bool false]) (size := 1) (bytes := 1) (n := p.length) (by omega) hp rfl rfl (.inr rfl) rfl
  have m2 := qMS_n (μ := [wB wZ, boolB (List.replicate p.length false)]) (sh := [.sc]) (agg := false) (zero := [.str ⟨#[]⟩]) (size := 1) (bytes := 16) (n := p.length) (by omega) hp rfl rfl (.inr rfl) rfl
  have m3 := qMS_n (μ := [wB wZ, boolB (List.replicate p.length false), tB 0 (List.replicate p.length ⟨#[]⟩)]) (sh := [.sc]) (agg := false) (zero := [.bool false]) (size := 1) (bytes := 1) (n := p.length) (by omega) hp rfl rfl (.inr rfl) rfl
  rw [mkB] at m1 m3
  rw [mkT] at m2
  have cT := cq_clT (N := N) (n := n) p hp [wB wZ, boolB (List.replicate p.length false), tB 0 (List.replicate p.length ⟨#[]⟩), boolB (List.replicate p.length false)]
  have hal := alW []
  simp only [List.length_nil, List.nil_append] at hal
  have s1' := stNew 0 p.length size (tB 0 p)
  unfold nM at s1'
  simp only [hal, b2_some, qLen_sl, List.length_map, bd_some, m1, List.length_cons, List.length_nil, Nat.zero_add, Nat.reduceAdd, List.cons_append, List.nil_append, m2, m3, cT, c1_some, u1_list, bNewO, s1', ldNew]
  obtain ⟨ν', hr⟩ := resNew (p := p) (size := size) (v := 0) (c0 := wB [.own 4 0 0 p.length p.length false, .int .i64 size, .own 1 0 0 p.length p.length true, .own 5 0 0 0 0 false, .own 2 0 0 p.length p.length true, .own 3 0 0 p.length p.length true, .int .i64 0]) (rs := S_impl_newWindow.rs) (tl := []) (tl' := []) (rs' := []) rfl (fun ν => ⟨ν, rfl⟩)
  exact ⟨_, rfl, ν', hr⟩
theorem NewI {N n : Nat} (hN : 4294967296 ≤ N) (p : List ByteArray) (size : Int) (hp : p.length ≤ 1048576) : run1 S_impl_NewWindow (qfn P N (n + 7) n_impl_NewWindow) [.sl [.sc] (p.map DV.str), .int .i64 size] = some ([(outN p size).1.enc, .bool (outN p size).2], []) := by
  have e1 := arePieces_ok (n := n) hN p hp []
  have e2 := cq_sn (μ := []) (args := [.sl [.sc] (p.map DV.str), .int .i64 size]) (s := S_impl_newWindow) rfl (by simp only [sns, S_impl_newWindow, sn_cl _ _ (txts_cl p), snI, Option.bind_some]) (newwI (N := N) (n := n + 4) p size hp) rfl
  rw [adL_w] at e2
  unfold outN
  by_cases h : arePc p = true ∧ 1 ≤ size ∧ size ≤ 12
  · rw [if_pos h]
    have hb : (decide (1 ≤ size) && decide (size ≤ 12)) = true := by simp [h.2]
    obtain ⟨ν', hr⟩ := res2 true (WB.app [] (newWin p size))
    refine run1_of rfl rfl rfl (r := [winOwn 0 (newWin p size), .bool true]) (ν := wM (newWin p size)) ?_ hr
    rw [impl_NewWindow_eq]
    unfold P_impl_NewWindow
    simp only [e1, c1_some, u1_list, h.1, qUn_not, bd_some, qB_bool, Bool.not_true, cond_false, within_ok, hb, e2, a7_winOwn, fold_winOwn, List.length_nil, List.nil_append]
    rfl
  · rw [if_neg h]
    refine run1_of rfl rfl rfl (r := [.agg [.nil, .int .i64 0, .nil, .nil, .nil, .nil, .int .i64 0], .bool false]) (ν := []) ?_ (resW0 _)
    rw [impl_NewWindow_eq]
    unfold P_impl_NewWindow
    by_cases hp1 : arePc p = true
    · have hb : (decide (1 ≤ size) && decide (size ≤ 12)) = false := by
        by_cases g1 : 1 ≤ size <;> by_cases g2 : size ≤ 12 <;> simp [g1, g2]
        exact h ⟨hp1, g1, g2⟩
      simp only [e1, c1_some, u1_list, hp1, qUn_not, bd_some, qB_bool, Bool.not_true, cond_false, within_ok, hb, Bool.not_false, cond_true, bWin0, a7_agg]
    · simp only [e1, c1_some, u1_list, hp1, qUn_not, bd_some, qB_bool, Bool.not_false, cond_true, bWin0, a7_agg]
theorem stZ (b : List PB) : qSt (wB wZ :: b) 7 (.ptr 0 0 0 0) (.agg [.nil, .int .i64 0, .nil, .nil, .nil, .nil, .int .i64 0]) = some (wB wZ :: b) := rfl
theorem NewS {N n : Nat} (hN : 4294967296 ≤ N) (p : List ByteArray) (size : Int) (hp : p.length ≤ 1048576) : run1 S_spec_NewWindow (qfn P N (n + 7) n_spec_NewWindow) [.sl [.sc] (p.map DV.str), .int .i64 size] = some ([(outN p size).1.enc, .bool (outN p size).2], []) := by
  have e1 := l9Pieces_ok (n := n + 5) hN p hp [wB wZ]
  have hal := alW []
  simp only [List.length_nil, List.nil_append] at hal
  have lz : ∃ μ', qLd [wB wZ] 7 true (.ptr 0 0 0 0) = some (.agg [.own 1 0 0 0 0 false, .int .i64 0, .own 2 0 0 0 0 false, .own 3 0 0 0 0 false, .own 4 0 0 0 0 false, .own 5 0 0 0 0 false, .int .i64 0], μ') ∧ ∃ ν', resO S_spec_NewWindow.rs [.agg [.own 1 0 0 0 0 false, .int .i64 0, .own 2 0 0 0 0 false, .own 3 0 0 0 0 false, .own 4 0 0 0 0 false, .own 5 0 0 0 0 false, .int .i64 0], .bool false] μ' = some ([win0.enc, .bool false], ν') := ⟨_, rfl, _, rfl⟩
  obtain ⟨μz, lz1, νz, lz2⟩ := lz
  refine run1_ex rfl rfl rfl ?_
  rw [spec_NewWindow_eq]
  unfold P_spec_NewWindow outN
  simp only [hal, b2_some, qLen_sl, List.length_map, bd_some, e1, c1_some, u1_list, qUn_not, qB_bool, l1In_ok]
  by_cases h : arePc p = true ∧ 1 ≤ size ∧ size ≤ 12
  · rw [if_pos h]
    have hb : (decide (1 ≤ size) && decide (size ≤ 12)) = true := by simp [h.2]
    have m1 := qMS_n (μ := [wB wZ]) (sh := [.sc]) (agg := false) (zero := [.bool false]) (size := 1) (bytes := 1) (n := p.length) (by omega) hp rfl rfl (.inr rfl) rfl
    have m2 := qMS_n (μ := [wB wZ, boolB (List.replicate p.length false)]) (sh := [.sc]) (agg := false) (zero := [.str ⟨#[]⟩]) (size := 1) (bytes := 16) (n := p.length) (by omega) hp rfl rfl (.inr rfl) rfl
    have m3 := qMS_n (μ := [wB wZ, boolB (List.replicate p.length false), tB 0 (List.replicate p.length ⟨#[]⟩)]) (sh := [.sc]) (agg := false) (zero := [.bool false]) (size := 1) (bytes := 1) (n := p.length) (by omega) hp rfl rfl (.inr rfl) rfl
    rw [mkB] at m1 m3
    rw [mkT] at m2
    have bT : ∀ μ : PH, qBS μ false [.sc] false [.str ⟨#[]⟩] 1 0 [] = some (.e0 1, μ) := fun _ => rfl
    simp only [h.1, hb, Bool.not_true, cond_false, bT, b2_some, m1, m2, m3, List.length_cons, List.length_nil, Nat.zero_add, Nat.reduceAdd, List.cons_append, List.nil_append]
    by_cases hnil : p = []
    · subst hnil
      have he := qAp_e0 (μ := [wB wZ, boolB (List.replicate 0 false), tB 0 (List.replicate 0 ⟨#[]⟩), boolB (List.replicate 0 false)]) (sh := [.sc]) (sh' := [.sc]) (z := 1) (by_ := 16) rfl rfl
      simp only [List.map_nil, List.length_nil, he, b2_some, bNewE, bd_some, stNew0, ldNew0]
      obtain ⟨ν', hr⟩ := resNew (p := []) (size := size) (v := 0) (c0 := wB [.own 4 0 0 0 0 false, .int .i64 size, .own 1 0 0 0 0 true, .own 5 0 0 0 0 false, .own 2 0 0 0 0 true, .own 3 0 0 0 0 true, .int .i64 0]) (rs := S_spec_NewWindow.rs) (tl := [.bool true]) (tl' := [.bool true]) (rs' := [[.sc]]) rfl (fun ν => ⟨ν, rfl⟩)
      exact ⟨_, rfl, ν', hr⟩
    · have he := qAp_listM (μ := [wB wZ, boolB (List.replicate p.length false), tB 0 (List.replicate p.length ⟨#[]⟩), boolB (List.replicate p.length false)]) (sh := [.sc]) (z := 1) (by_ := 16) (l := p.map DV.str) rfl (by rw [List.length_map]; exact List.length_pos_iff.2 hnil) (flatL_txt p) (by rw [List.length_map]; omega) (by decide) (by rw [List.length_map]; omega)
      rw [List.length_map] at he
      have s1' := stNew p.length p.length size (tB p.length p)
      unfold nM at s1'
      have he' : qAp [wB wZ, boolB (List.replicate p.length false), tB 0 (List.replicate p.length ⟨#[]⟩), boolB (List.replicate p.length false)] false [.sc] 1 16 (.e0 1) (.sl [.sc] (p.map DV.str)) = some (.own 4 p.length 0 p.length p.length false, [wB wZ, boolB (List.replicate p.length false), tB 0 (List.replicate p.length ⟨#[]⟩), boolB (List.replicate p.length false), tB p.length p]) := he
      simp only [he', b2_some, bNewO, bd_some, s1', ldNew]
      obtain ⟨ν', hr⟩ := resNew (p := p) (size := size) (v := p.length) (c0 := wB [.own 4 p.length 0 p.length p.length false, .int .i64 size, .own 1 0 0 p.length p.length true, .own 5 0 0 0 0 false, .own 2 0 0 p.length p.length true, .own 3 0 0 p.length p.length true, .int .i64 0]) (rs := S_spec_NewWindow.rs) (tl := [.bool true]) (tl' := [.bool true]) (rs' := [[.sc]]) rfl (fun ν => ⟨ν, rfl⟩)
      exact ⟨_, rfl, ν', hr⟩
  · rw [if_neg h]
    refine ⟨([.agg [.own 1 0 0 0 0 false, .int .i64 0, .own 2 0 0 0 0 false, .own 3 0 0 0 0 false, .own 4 0 0 0 0 false, .own 5 0 0 0 0 false, .int .i64 0], .bool false], μz), ?_, νz, lz2⟩
    by_cases hp1 : arePc p = true
    · have hb : (decide (1 ≤ size) && decide (size ≤ 12)) = false := by
        by_cases g1 : 1 ≤ size <;> by_cases g2 : size ≤ 12 <;> simp [g1, g2]
        exact h ⟨hp1, g1, g2⟩
      simp only [hp1, Bool.not_true, cond_false, hb, Bool.not_false, cond_true, bWin0, bd_some, stZ, lz1, b2_some]
    · simp only [hp1, Bool.not_false, cond_true, bWin0, bd_some, stZ, lz1, b2_some]
theorem WS.ldAll {μ : PH} {w : Win} {cell : DV} (h : WS μ w cell) : ∃ ln' μ2, qLd μ 7 true (.ptr 5 0 0 0) = some (.agg (wC 0 ln' w), μ2) ∧ WB μ2 0 w ln' ∧ ∀ k, k < μ.length → k ≠ 5 → μ2[k]? = μ[k]? := by
  rcases h.or_ with ⟨g, hwb⟩ | ⟨hwb, il, vl, o, m, c, g, g5⟩
  · have hst := h.st
    rw [g] at hst
    have hline : w.line = [] := by
      have hl := hwb.lna
      generalize w.line = l at hl
      cases hl; rfl
    have hpl := bk_lt hst
    have e2 : qLd μ 7 true (.ptr 5 0 0 0) = some (.agg (wC 0 (.own μ.length 0 0 0 0 false) w), (μ ++ [(⟨0, shFrm, [], true, false, true⟩ : PB)]).set 5 (wB (wC 0 (.own μ.length 0 0 0 0 false) w))) := by
      have he : (wB (wC 0 (.sl shFrm []) w)).el[0]? = some (.agg (wC 0 (.sl shFrm []) w)) := rfl
      have hk : (((cellsD (.agg (wC 0 (.sl shFrm []) w))).drop 0).take 7).all okC = false := rfl
      have hk2 : (((cellsD (.agg (wC 0 (.sl shFrm []) w))).drop 0).take 7).all (fun c => okC c || isSl c) = true := rfl
      simp only [qLd, hst, Option.bind_some, he, hk, hk2]
      rfl
    have hold : ∀ k, k < μ.length → k ≠ 5 → ((μ ++ [(⟨0, shFrm, [], true, false, true⟩ : PB)]).set 5 (wB (wC 0 (.own μ.length 0 0 0 0 false) w)))[k]? = μ[k]? := fun k hk hkp => by
      rw [List.getElem?_set_ne (Ne.symm hkp), List.getElem?_append_left hk]
    have hb : ∀ k ver, k < μ.length → k ≠ 5 → bk ((μ ++ [(⟨0, shFrm, [], true, false, true⟩ : PB)]).set 5 (wB (wC 0 (.own μ.length 0 0 0 0 false) w))) k ver = bk μ k ver := fun k ver hk hkp => by unfold bk; rw [hold k hk hkp]
    refine ⟨_, _, e2, ⟨?_, ?_, ?_, ?_, ?_, ?_⟩, hold⟩
    · rw [hb 0 0 (bk_lt hwb.b0) (by decide)]; exact hwb.b0
    · rw [hb (0 + 1) 0 (bk_lt hwb.b1) (by decide)]; exact hwb.b1
    · rw [hb (0 + 3) 0 (bk_lt hwb.b3) (by decide)]; exact hwb.b3
    · rw [hb (0 + 4) 0 (bk_lt hwb.b4) (by decide)]; exact hwb.b4
    · rw [hline]
      refine .own _ _ _ _ _ ⟨0, shFrm, [], true, false, true⟩ _ ?_ ⟨rfl, rfl, rfl, rfl, by simp⟩ (Nat.le_refl _)
      rw [bk_set_ne (by omega)]
      simp [bk]
    · intro il hi
      cases hi
      have q0 := bk_lt hwb.b0; have q1 := bk_lt hwb.b1; have q3 := bk_lt hwb.b3; have q4 := bk_lt hwb.b4
      omega
  · subst g
    exact ⟨_, μ, qLd_ok h.st (e := .agg (wC 0 (.own il vl o m c false) w)) rfl rfl rfl, hwb, fun _ _ _ => rfl⟩
/-- the end of both: the window in new memory, what was done -/
theorem resPW {μ : PH} {k : Nat} {x : DV} {d : List Bool} {w : Win} (hd : DN μ k x d) (hx : x ≠ .nil → k < μ.length) (rs : List (List Sh)) (hrs : rs = [shWin, [.sl [.sc]], [.sc]]) :
    ∃ ν', resO rs [winOwn μ.length w, x, .bool true] (μ ++ wM w) = some ([w.enc, .sl [.sc] (d.map eBool), .bool true], ν') := by
  subst hrs
  obtain ⟨ν, t1, t2, t3⟩ := (WB.app μ w).res
  have hd' : DN ν k x d := hd.mono fun hn => by
    have := hx hn
    rw [t3 k (by omega) (by omega) (by omega) (by omega) (fun il hi => by cases hi; omega), List.getElem?_append_left this]
  obtain ⟨μ', h'⟩ := hd'.tk
  refine ⟨μ', ?_⟩
  have hx' : onS tkC ν [.sl [.sc]] x = some (.sl [.sc] (d.map eBool), μ') := by
    cases hd with
    | nil => exact h'
    | own _ _ _ _ _ => exact h'
  have t1' : onS tkC (μ ++ wM w) shWin (winOwn μ.length w) = some (w.enc, ν) := t1
  simp only [resO, t1', hx', Option.bind_some]
  rfl
end Go.Lg.Pv.Q
namespace Go.Lg.Pv.Q
open Go Go.Lg Go.Lg.Pv
set_option linter.unusedVariables false
set_option linter.unusedSimpArgs false
set_option maxRecDepth 100000

def bare (w : Win) : Win := { w with line := [] }
def sett (w : Win) : Win := (stepW (stepW (stepW (bare w) ⟨1, ldT w.heard⟩).1 ⟨2, 0⟩).1 ⟨2, 0⟩).1
def settW : Nat → Win → Int → Win × Int
  | 0, w, m => (w, m)
  | f + 1, w, m => if ldT w.heard < w.pieces.length then settW f (sett w) (m + 1) else (w, m)
def outT (w : Win) : Win × Int × Bool := if goodW w = true then ((settW 20 w 0).1, (settW 20 w 0).2, true) else (win0, 0, false)
theorem bare_ok {w : Win} (h : WOk w) : WOk (bare w) := ⟨h.h1, h.h2, h.h3, h.n, h.s0, h.s1, Nat.zero_le _, fun f hf => by cases hf⟩
theorem sett_ok {w : Win} (h : WOk w) : WOk (sett w) := stepW_ok (stepW_ok (stepW_ok (bare_ok h) _) _) _
theorem settW_ok : ∀ (f : Nat) (w : Win) (m : Int), WOk w → WOk (settW f w m).1
  | 0, w, m, h => h
  | f + 1, w, m, h => by
    unfold settW; split
    · exact settW_ok f _ _ (sett_ok h)
    · exact h
theorem ldT_get : ∀ (l : List Bool), ldT l < l.length → l.getD (ldT l) false = false
  | [], h => by simp [ldT] at h
  | true :: l, h => by
    have := ldT_get l (by simpa [ldT] using h)
    simpa [ldT] using this
  | false :: l, h => rfl
theorem ldT_up : ∀ (l : List Bool), ldT l < l.length → ldT l + 1 ≤ ldT (l.set (ldT l) true)
  | [], h => by simp [ldT] at h
  | true :: l, h => by
    have := ldT_up l (by simpa [ldT] using h)
    simp only [ldT, List.set_cons_succ]; omega
  | false :: l, h => by simp [ldT]
theorem sett_heard {w : Win} (h : WOk w) (hk : ldT w.heard < w.pieces.length) : (sett w).heard = w.heard.set (ldT w.heard) true ∧ (sett w).pieces = w.pieces := by
  have h1 := h.h1; have h3 := h.h3; have hs0 := h.s0
  have hg := ldT_get w.heard (by omega)
  have hc : canW (bare w) (ldT w.heard) = true := by
    unfold canW bare
    simp only [Int.toNat_natCast, hg, Bool.not_false, Bool.and_true, Bool.and_eq_true, decide_eq_true_eq]
    omega
  have e1 : (stepW (bare w) ⟨1, ldT w.heard⟩).1 = { w with line := [⟨false, ldT w.heard, w.pieces.getD (ldT w.heard) ⟨#[]⟩⟩] } := by
    unfold stepW
    rw [if_pos rfl, if_pos hc]
    rfl
  have e2 : (stepW { w with line := [⟨false, ldT w.heard, w.pieces.getD (ldT w.heard) ⟨#[]⟩⟩] } ⟨2, 0⟩).1 = { w with line := [⟨true, ldT w.heard, ⟨#[]⟩⟩], has := w.has.set (ldT w.heard) true, held := w.held.set (ldT w.heard) (w.pieces.getD (ldT w.heard) ⟨#[]⟩), told := ldT (w.has.set (ldT w.heard) true) } := by
    unfold stepW
    rw [if_neg (by decide), if_pos (by simp), if_neg (by decide), if_pos rfl]
    rfl
  have e3 : (stepW { w with line := [⟨true, ldT w.heard, ⟨#[]⟩⟩], has := w.has.set (ldT w.heard) true, held := w.held.set (ldT w.heard) (w.pieces.getD (ldT w.heard) ⟨#[]⟩), told := ldT (w.has.set (ldT w.heard) true) } ⟨2, 0⟩).1 =
      { w with line := [], heard := w.heard.set (ldT w.heard) true, has := w.has.set (ldT w.heard) true, held := w.held.set (ldT w.heard) (w.pieces.getD (ldT w.heard) ⟨#[]⟩), told := ldT (w.has.set (ldT w.heard) true) } := by
    unfold stepW
    rw [if_neg (by decide), if_pos (by simp), if_neg (by decide), if_pos rfl]
    rfl
  unfold sett
  rw [e1, e2, e3]
  exact ⟨rfl, rfl⟩
theorem sett_up {w : Win} (h : WOk w) (hk : ldT w.heard < w.pieces.length) : ldT w.heard + 1 ≤ ldT (sett w).heard ∧ (sett w).pieces = w.pieces := by
  obtain ⟨h1, h2⟩ := sett_heard h hk
  have := h.h1
  rw [h1]; exact ⟨ldT_up _ (by omega), h2⟩
theorem bSt (a b : Int) : qBuild [.int .i64 0, .int .i64 0] [(0, 1, false), (1, 1, false)] [(0, .int .i64 a), (1, .int .i64 b)] = some (.agg [.int .i64 a, .int .i64 b]) := rfl
theorem bSt1 (a : Int) : qBuild [.int .i64 0, .int .i64 0] [(0, 1, false), (1, 1, false)] [(0, .int .i64 a)] = some (.agg [.int .i64 a, .int .i64 0]) := rfl
theorem resT {μ : PH} {w : Win} {m : Int} (rs : List (List Sh)) (hrs : rs = [shWin, [.sc], [.sc]]) : ∃ ν', resO rs [winOwn μ.length w, .int .i64 m, .bool true] (μ ++ wM w) = some ([w.enc, .int .i64 m, .bool true], ν') := by
  subst hrs
  obtain ⟨ν, t1, _⟩ := (WB.app μ w).res
  have t1' : onS tkC (μ ++ wM w) shWin (winOwn μ.length w) = some (w.enc, ν) := t1
  exact ⟨ν, by simp only [resO, t1', Option.bind_some]; rfl⟩
theorem resT0 (ν : PH) : resO [shWin, [.sc], [.sc]] [.agg [.nil, .int .i64 0, .nil, .nil, .nil, .nil, .int .i64 0], .int .i64 0, .bool false] ν = some ([win0.enc, .int .i64 0, .bool false], ν) := rfl
theorem WS.bare {μ : PH} {w : Win} {cell : DV} (h : WS μ w cell) : qSt μ 1 (.ptr 5 0 0 3) .nil = some (μ.set 5 (wB (wC 0 (.sl shFrm []) w))) ∧ WS (μ.set 5 (wB (wC 0 (.sl shFrm []) w))) (bare w) (.sl shFrm []) := by
  constructor
  · rw [qSt_ptr (size := 1) (off := 3) (i := 0) (e := .agg (wC 0 cell w)) (cs := [.sl shFrm []]) h.st rfl rfl (by rw [cellsD_agg]; show _ ≤ 7; decide) rfl]
    rfl
  · refine ⟨bk_wB h.st, .inl ⟨rfl, ⟨?_, ?_, ?_, ?_, .e0, fun il hi => by cases hi⟩⟩⟩
    · rw [bk_set_ne (by decide)]; exact h.b0
    · rw [bk_set_ne (by decide)]; exact h.b1
    · rw [bk_set_ne (by decide)]; exact h.b3
    · rw [bk_set_ne (by decide)]; exact h.b4
theorem settI {N n : Nat} (hN : 4294967296 ≤ N) (w : Win) (h0 : w.pieces.length ≤ 1048576) (h1 : w.heard.length ≤ 1048576) (h2 : w.line.length ≤ 1048576) (h3 : w.held.length ≤ 1048576) (h4 : w.has.length ≤ 1048576) :
    run1 S_impl_SettleWindow (qfn P N (n + 8) n_impl_SettleWindow) [w.enc] = some ([(outT w).1.enc, .int .i64 (outT w).2.1, .bool (outT w).2.2], []) := by
  have hgd := goodI (n := n) hN w h0 h1 h2 h3 h4 []
  unfold outT
  by_cases hg : goodW w = true
  rotate_left
  · rw [if_neg hg]
    refine run1_of rfl rfl rfl (r := [.agg [.nil, .int .i64 0, .nil, .nil, .nil, .nil, .int .i64 0], .int .i64 0, .bool false]) (ν := []) ?_ (resT0 _)
    rw [impl_SettleWindow_eq]
    unfold P_impl_SettleWindow
    simp only [a7_win, fold_win, hgd, c1_some, u1_list, qUn_not, bd_some, qB_bool, hg, Bool.not_false, cond_true, bWin0, a7_agg]
  rw [if_pos hg]
  have h := goodW_ok hg
  generalize hF : settW 20 w 0 = F
  have e1 := cq_ownW (N := N) (n := n + 5) w h0 h1 h2 h3 h4 (μ := []) (args := [w.enc]) (by simp only [sns, S_impl_Window_own, sn_cl _ _ (Win.cl w), Option.bind_some])
  have hal : qAl (wM w) false [.sl [.sc], .sc, .sl [.sc], .sl [.sc, .sc, .sc], .sl [.sc], .sl [.sc], .sc] true [.nil, .int .i64 0, .nil, .nil, .nil, .nil, .int .i64 0] = some (.ptr 5 0 0 0, wM w ++ [wB wZ]) := rfl
  have e3 := stWw w (μ := wM w ++ [wB wZ]) (id := 5) (i := 0) rfl
  have hws : WS ((wM w ++ [wB wZ]).set 5 (wB (wC 0 (.own (0 + 2) 0 0 w.line.length w.line.length false) w))) w (.own (0 + 2) 0 0 w.line.length w.line.length false) :=
    ⟨rfl, .inr ⟨WB.own rfl rfl rfl rfl rfl, _, _, _, _, _, rfl, by decide⟩⟩
  generalize (wM w ++ [wB wZ]).set 5 (wB (wC 0 (.own (0 + 2) 0 0 w.line.length w.line.length false) w)) = μ1 at e3 hws
  refine run1_ex rfl rfl rfl ?_
  rw [impl_SettleWindow_eq]
  unfold P_impl_SettleWindow
  simp only [a7_win, fold_win, hgd, c1_some, u1_list, qUn_not, bd_some, qB_bool, hg, Bool.not_true, cond_false, e1, List.nil_append, List.length_nil, hal, b2_some, e3]
  have hn := h.n
  refine loop_ex (F := P_impl_SettleWindow.l0 N (qfn P N (n + 7)) 0) (N := N) (σ := Win × Int × PH × DV) (len := 14)
    (fun i s => ([.ptr 5 0 0 0, .int .i64 s.2.1, .nil, .int .i64 0, .nil, .nil, .nil, .nil, .int .i64 0] : List DV)) (fun i s => s.2.2.1)
    (fun i s => WOk s.1 ∧ WS s.2.2.1 s.1 s.2.2.2 ∧ i ≤ ldT s.1.heard ∧ s.2.1 = (i : Nat) ∧ settW (20 - i) s.1 s.2.1 = F)
    (fun r : List DV × PH => ∃ ν', resO S_impl_SettleWindow.rs r.1 r.2 = some ([F.1.enc, .int .i64 F.2, .bool true], ν'))
    ?_ ?_ 14 (i := 0) (s := (w, 0, μ1, .own (0 + 2) 0 0 w.line.length w.line.length false)) ⟨h, hws, Nat.zero_le _, rfl, hF⟩ (by omega) (by omega)
  rotate_left
  · rintro ⟨w, m, μ, cell⟩ rec ⟨hw, hs, hi, hm, hp⟩
    simp only at hw hs hi hm hp ⊢
    exfalso
    have := ldT_le w.heard; have := hw.h1; have := hw.n
    omega
  rintro i ⟨w, m, μ, cell⟩ rec hi ⟨hw, hs, hil, hm, hp⟩
  simp only at hw hs hil hm hp ⊢
  have hwn := hw.n; have hw1 := hw.h1
  have hlt := ldT_le w.heard
  obtain ⟨l0, l1, l2, l4, l5⟩ := hs.ld
  have hwt := without_ok (N := N) (n := n + 6) hN w.heard (by omega) (μ := μ) (args := [.own (0 + 1) 0 0 w.heard.length w.heard.length false]) (by
    simp only [sns, S_impl_without]; rw [snBool hs.b1 rfl rfl rfl]; rfl)
  have hlen : qLen μ (.own (0 + 1) 0 0 w.heard.length w.heard.length false) = some (.int .i64 w.heard.length) := qLen_own hs.b1
  have hst : ∀ q : RD, stand (.ptr 5 0 0 2) (some (idsL [.own (0 + 1) 0 0 w.heard.length w.heard.length false])) μ q = q := fun q => by
    have : bk μ 5 0 = _ := hs.st
    simp [stand, this, idsL, idsV]
  have hun : settW (20 - i) w m = if ldT w.heard < w.pieces.length then settW (19 - i) (sett w) (m + 1) else (w, m) := by
    rw [show 20 - i = (19 - i) + 1 by omega]; rfl
  rw [hun] at hp
  unfold P_impl_SettleWindow.l0
  rw [show (0 + 1 : Nat) = 1 from rfl] at l2 hwt hlen hst
  simp only [u9_list, qFA_ptr _ hs.st, Nat.zero_add, bd_some, l2, b2_some, hlen, hwt, c1_some, u1_list, hst, qBin_lss, qB_bool]
  by_cases hc : ldT w.heard < w.pieces.length
  · rw [if_pos hc] at hp
    have hci : ((ldT w.heard : Nat) : Int) < (w.heard.length : Nat) := by omega
    obtain ⟨p1, p2⟩ := hs.bare
    obtain ⟨_, _, l2', _, _⟩ := p2.ld
    have l2' : qLd (μ.set 5 (wB (wC 0 (.sl shFrm []) w))) 1 false (.ptr 5 0 0 2) = some (.own 1 0 0 w.heard.length w.heard.length false, μ.set 5 (wB (wC 0 (.sl shFrm []) w))) := l2'
    have hwt2 := without_ok (N := N) (n := n + 6) hN w.heard (by omega) (μ := μ.set 5 (wB (wC 0 (.sl shFrm []) w))) (args := [.own 1 0 0 w.heard.length w.heard.length false]) (by
      simp only [sns, S_impl_without]; rw [snBool (l := w.heard) p2.b1 rfl rfl rfl]; rfl)
    obtain ⟨μa, ca, a1, a2, _⟩ := step_ok (N := N) (n := n + 4) hN ⟨1, ldT w.heard⟩ p2 (bare_ok hw)
    have oa := stepW_ok (bare_ok hw) ⟨1, ldT w.heard⟩
    obtain ⟨μb, cb, b1, b2, _⟩ := step_ok (N := N) (n := n + 4) hN ⟨2, 0⟩ a2 oa
    have ob := stepW_ok oa ⟨2, 0⟩
    obtain ⟨μc, cc, c1, c2, _⟩ := step_ok (N := N) (n := n + 4) hN ⟨2, 0⟩ b2 ob
    obtain ⟨u1, u2⟩ := sett_up hw hc
    refine .inl ⟨(sett w, m + 1, μc, cc), ⟨sett_ok hw, c2, ?_, ?_, ?_⟩, ?_⟩
    · show i + 1 ≤ ldT (sett w).heard; omega
    · show m + 1 = ((i + 1 : Nat) : Int); omega
    · show settW (20 - (i + 1)) (sett w) (m + 1) = F; rw [show 20 - (i + 1) = 19 - i by omega]; exact hp
    · have a1' : qfn P N (n + 7) n_impl_Window_step [.ptr 5 0 0 0, .agg [.int .i64 1, .int .i64 (ldT w.heard)]] (μ.set 5 (wB (wC 0 (.sl shFrm []) w))) = _ := a1
      have b1' : qfn P N (n + 7) n_impl_Window_step [.ptr 5 0 0 0, .agg [.int .i64 2, .int .i64 0]] μa = _ := b1
      have c1' : qfn P N (n + 7) n_impl_Window_step [.ptr 5 0 0 0, .agg [.int .i64 2, .int .i64 0]] μb = _ := c1
      simp only [hci, decide_true, cond_true, p1, bd_some, qFA_ptr _ p2.st, Nat.zero_add, l2', b2_some, hwt2, c1_some, u1_list, bSt, a1', bSt1, b1', c1', qBin_add]
      rw [wrapI (n := m + 1) (by constructor <;> omega)]
  · rw [if_neg hc] at hp
    have hci : ¬ ((ldT w.heard : Nat) : Int) < (w.heard.length : Nat) := by omega
    obtain ⟨ln', μ2, r1, r2, r3⟩ := hs.ldAll
    obtain ⟨k0, k1, k2, k3, k4⟩ := wok_len hw
    have e6 := cq_ownW (N := N) (n := n + 5) w k0 k1 k2 k3 k4 (μ := μ2) (args := [.agg (wC 0 ln' w)]) (by simp only [sns, S_impl_Window_own]; rw [r2.sn]; rfl)
    refine .inr ⟨([winOwn μ2.length w, .int .i64 m, .bool true], μ2 ++ wM w), ?_, ?_⟩
    · simp only [hci, decide_false, cond_false, r1, b2_some, e6, c1_some, u1_list, a7_winOwn, fold_winOwn]
    · subst hp
      exact resT _ rfl
theorem nil_tk (μ : PH) (i : Nat) (w : Win) : onS tkC μ shWin (.agg (wC i .nil w)) = onS tkC μ shWin (.agg (wC i (.e0 3) w)) := by
  have : ∀ ν : PH, tkC ν (.sl shFrm) .nil = tkC ν (.sl shFrm) (.e0 3) := fun _ => rfl
  simp only [onS, wC, zipS, List.headD_cons, List.tail_cons, this]
theorem cq_stpN {N n : Nat} (hN : 4294967296 ≤ N) (w : Win) (s : WStep) (h : WOk w) {μ : PH} {i : Nat} (hwb : WB μ i (bare w) (.e0 3)) :
    ∃ ν, cq S_spec_l9Step (qfn P N (n + 3) n_spec_l9Step) [.agg (wC i .nil w), s.enc] μ = some ([winOwn ν.length (stepW (bare w) s).1, .bool (stepW (bare w) s).2], ν ++ wM (stepW (bare w) s).1) ∧ ν.length = μ.length := by
  obtain ⟨ν, h1, h2, _⟩ := hwb.res
  refine ⟨ν, ?_, h2⟩
  have h1' : onS tkC μ shWin (.agg (wC i .nil w)) = some ((bare w).enc, ν) := (nil_tk μ i w).trans h1
  have hp : pack1 S_spec_l9Step.ps [.agg (wC i .nil w), s.enc] μ = some ([some (bare w).enc, none], ν) := by
    show pack1 [(.move, shWin), (.snap, [.sc, .sc])] _ _ = _
    simp only [pack1, h1', Option.bind_some]
  have hq : pack2 (cond S_spec_l9Step.fresh ν []) S_spec_l9Step.ps [.agg (wC i .nil w), s.enc] [some (bare w).enc, none] = some [(bare w).enc, s.enc] := by
    have := sn_cl ν [.sc, .sc] (WStep.cl s)
    unfold Pv.sn at this
    show pack2 (cond true ν []) [(.move, shWin), (.snap, [.sc, .sc])] _ _ = _
    simp only [pack2, cond_true, this, Option.bind_some]
  have hf : S_spec_l9Step.fresh = true := rfl
  have hr := l9Step_run (N := N) (n := n) hN (bare w) s (bare_ok h)
  unfold cq nC
  simp only [hp, Option.bind_some]
  rw [hq]
  simp only [Option.bind_some, hf, true_or, if_true, hr]
  rw [adL_w]
  first | exact if_pos fun _ => rfl | exact if_pos rfl
theorem settS {N n : Nat} (hN : 4294967296 ≤ N) (w : Win) (h0 : w.pieces.length ≤ 1048576) (h1 : w.heard.length ≤ 1048576) (h2 : w.line.length ≤ 1048576) (h3 : w.held.length ≤ 1048576) (h4 : w.has.length ≤ 1048576) :
    run1 S_spec_SettleWindow (qfn P N (n + 8) n_spec_SettleWindow) [w.enc] = some ([(outT w).1.enc, .int .i64 (outT w).2.1, .bool (outT w).2.2], []) := by
  have hgd := goodS (n := n) hN w h0 h1 h2 h3 h4 []
  unfold outT
  by_cases hg : goodW w = true
  rotate_left
  · rw [if_neg hg]
    refine run1_of rfl rfl rfl (r := [.agg [.nil, .int .i64 0, .nil, .nil, .nil, .nil, .int .i64 0], .int .i64 0, .bool false]) (ν := []) ?_ (resT0 _)
    rw [spec_SettleWindow_eq]
    unfold P_spec_SettleWindow
    simp only [a7_win, fold_win, hgd, c1_some, u1_list, qUn_not, bd_some, qB_bool, hg, Bool.not_false, cond_true, bWin0, a7_agg]
  rw [if_pos hg]
  have h := goodW_ok hg
  generalize hF : settW 20 w 0 = F
  have e1 := cq_l9Own (N := N) (n := n + 6) w h0 h1 h2 h3 h4 (μ := []) (args := [w.enc]) (by simp only [sns, S_spec_l9Own, sn_cl _ _ (Win.cl w), Option.bind_some])
  have ht0 := told_ok (N := N) (n := n + 6) hN w.heard h1 (μ := wM w) (args := [.own (0 + 1) 0 0 w.heard.length w.heard.length false]) (by
    simp only [sns, S_spec_l9Told]; rw [snBool (l := w.heard) (b := boolB w.heard) rfl rfl rfl rfl]; rfl)
  refine run1_ex rfl rfl rfl ?_
  rw [spec_SettleWindow_eq]
  unfold P_spec_SettleWindow
  simp only [a7_win, fold_win, hgd, c1_some, u1_list, qUn_not, bd_some, qB_bool, hg, Bool.not_true, cond_false, e1, List.nil_append, List.length_nil, a7_winOwn, ht0]
  have hn := h.n
  refine loop_ex (F := P_spec_SettleWindow.l0 N (qfn P N (n + 7)) 0) (N := N) (σ := Win × Int × PH × Nat) (len := 14)
    (fun i s => ([.int .i64 s.2.1, .int .i64 (ldT s.1.heard), .nil, .int .i64 0, .nil, .nil, .nil, .nil, .int .i64 0, .own s.2.2.2 0 0 s.1.pieces.length s.1.pieces.length false, .int .i64 s.1.size, .own (s.2.2.2 + 1) 0 0 s.1.heard.length s.1.heard.length false, .own (s.2.2.2 + 2) 0 0 s.1.line.length s.1.line.length false, .own (s.2.2.2 + 3) 0 0 s.1.held.length s.1.held.length false, .own (s.2.2.2 + 4) 0 0 s.1.has.length s.1.has.length false, .int .i64 s.1.told] : List DV)) (fun i s => s.2.2.1)
    (fun i s => WOk s.1 ∧ WB s.2.2.1 s.2.2.2 s.1 (.own (s.2.2.2 + 2) 0 0 s.1.line.length s.1.line.length false) ∧ i ≤ ldT s.1.heard ∧ s.2.1 = (i : Nat) ∧ settW (20 - i) s.1 s.2.1 = F)
    (fun r : List DV × PH => ∃ ν', resO S_spec_SettleWindow.rs r.1 r.2 = some ([F.1.enc, .int .i64 F.2, .bool true], ν'))
    ?_ ?_ 14 (i := 0) (s := (w, 0, wM w, 0)) ⟨h, WB.own rfl rfl rfl rfl rfl, Nat.zero_le _, rfl, hF⟩ (by omega) (by omega)
  rotate_left
  · rintro ⟨w, m, μ, j⟩ rec ⟨hw, hs, hi, hm, hp⟩
    simp only at hw hs hi hm hp ⊢
    exfalso
    have := ldT_le w.heard; have := hw.h1; have := hw.n
    omega
  rintro i ⟨w, m, μ, j⟩ rec hi ⟨hw, hs, hil, hm, hp⟩
  simp only at hw hs hil hm hp ⊢
  have hwn := hw.n; have hw1 := hw.h1
  have hlt := ldT_le w.heard
  have hlp : qLen μ (.own j 0 0 w.pieces.length w.pieces.length false) = some (.int .i64 w.pieces.length) := qLen_own hs.b0
  have hun : settW (20 - i) w m = if ldT w.heard < w.pieces.length then settW (19 - i) (sett w) (m + 1) else (w, m) := by
    rw [show 20 - i = (19 - i) + 1 by omega]; rfl
  rw [hun] at hp
  unfold P_spec_SettleWindow.l0
  simp only [u16_list, bd_some, hlp, qBin_lss, qB_bool]
  by_cases hc : ldT w.heard < w.pieces.length
  · rw [if_pos hc] at hp
    have hci : ((ldT w.heard : Nat) : Int) < (w.pieces.length : Nat) := by omega
    have hwb0 : WB μ j (bare w) (.e0 3) := ⟨hs.b0, hs.b1, hs.b3, hs.b4, .e0, fun il hi => by cases hi⟩
    obtain ⟨νa, a1, a2⟩ := cq_stpN (N := N) (n := n + 4) hN w ⟨1, ldT w.heard⟩ hw hwb0
    have oa := stepW_ok (bare_ok hw) ⟨1, ldT w.heard⟩
    generalize hwa : (stepW (bare w) ⟨1, ldT w.heard⟩).1 = wa at a1 oa
    obtain ⟨νb, b1, b2, _⟩ := cq_stp (N := N) (n := n + 4) hN wa ⟨2, 0⟩ oa (WB.app νa wa)
    have ob := stepW_ok oa ⟨2, 0⟩
    generalize hwb : (stepW wa ⟨2, 0⟩).1 = wb at b1 ob
    obtain ⟨νc, c1, c2, _⟩ := cq_stp (N := N) (n := n + 4) hN wb ⟨2, 0⟩ ob (WB.app νb wb)
    have oc := stepW_ok ob ⟨2, 0⟩
    have hse : sett w = (stepW wb ⟨2, 0⟩).1 := by unfold sett; rw [hwa, hwb]
    rw [← hse] at c1 oc
    obtain ⟨k0, k1, k2, k3, k4⟩ := wok_len oc
    have hWc := WB.app νc (sett w)
    have ht := told_ok (N := N) (n := n + 6) hN (sett w).heard k1 (μ := νc ++ wM (sett w)) (args := [.own (νc.length + 1) 0 0 (sett w).heard.length (sett w).heard.length false]) (by
      simp only [sns, S_spec_l9Told]; rw [snBool hWc.b1 rfl rfl rfl]; rfl)
    obtain ⟨u1, u2⟩ := sett_up hw hc
    refine .inl ⟨(sett w, m + 1, νc ++ wM (sett w), νc.length), ⟨oc, hWc, ?_, ?_, ?_⟩, ?_⟩
    · show i + 1 ≤ ldT (sett w).heard; omega
    · show m + 1 = ((i + 1 : Nat) : Int); omega
    · show settW (20 - (i + 1)) (sett w) (m + 1) = F; rw [show 20 - (i + 1) = 19 - i by omega]; exact hp
    · have a1' : cq S_spec_l9Step (qfn P N (n + 7) n_spec_l9Step) [.agg [.own j 0 0 w.pieces.length w.pieces.length false, .int .i64 w.size, .own (j + 1) 0 0 w.heard.length w.heard.length false, .nil, .own (j + 3) 0 0 w.held.length w.held.length false, .own (j + 4) 0 0 w.has.length w.has.length false, .int .i64 w.told], .agg [.int .i64 1, .int .i64 (ldT w.heard)]] μ = _ := a1
      have b1' : cq S_spec_l9Step (qfn P N (n + 7) n_spec_l9Step) [winOwn νa.length wa, .agg [.int .i64 2, .int .i64 0]] (νa ++ wM wa) = _ := b1
      have c1' : cq S_spec_l9Step (qfn P N (n + 7) n_spec_l9Step) [winOwn νb.length wb, .agg [.int .i64 2, .int .i64 0]] (νb ++ wM wb) = _ := c1
      simp only [hci, decide_true, cond_true, s1_nil, bSt, bd_some, a1', c2_some, u2_list, a7_winOwn, fold_winOwn, bSt1, b1', c1', qBin_add, ht, c1_some, u1_list]
      rw [wrapI (n := m + 1) (by constructor <;> omega)]
  · rw [if_neg hc] at hp
    have hci : ¬ ((ldT w.heard : Nat) : Int) < (w.pieces.length : Nat) := by omega
    obtain ⟨k0, k1, k2, k3, k4⟩ := wok_len hw
    have e6 := cq_l9Own (N := N) (n := n + 6) w k0 k1 k2 k3 k4 (μ := μ) (args := [.agg (wC j (.own (j + 2) 0 0 w.line.length w.line.length false) w)]) (by simp only [sns, S_spec_l9Own]; rw [hs.sn]; rfl)
    have e6' : cq S_spec_l9Own (qfn P N (n + 7) n_spec_l9Own) [.agg [.own j 0 0 w.pieces.length w.pieces.length false, .int .i64 w.size, .own (j + 1) 0 0 w.heard.length w.heard.length false, .own (j + 2) 0 0 w.line.length w.line.length false, .own (j + 3) 0 0 w.held.length w.held.length false, .own (j + 4) 0 0 w.has.length w.has.length false, .int .i64 w.told]] μ = some ([winOwn μ.length w], μ ++ wM w) := e6
    refine .inr ⟨([winOwn μ.length w, .int .i64 m, .bool true], μ ++ wM w), ?_, ?_⟩
    · simp only [hci, decide_false, cond_false, e6', c1_some, u1_list, a7_winOwn]
      rfl
    · subst hp
      exact resT _ rfl
end Go.Lg.Pv.Q
namespace Go.Lg.Pv.Q
open Go Go.Lg Go.Lg.Pv
set_option linter.unusedVariables false
set_option linter.unusedSimpArgs false
set_option maxRecDepth 100000

theorem outT_len (w : Win) : (outT w).1.pieces.length ≤ 13 ∧ (outT w).1.heard.length ≤ 13 ∧ (outT w).1.line.length ≤ 30 ∧ (outT w).1.held.length ≤ 13 ∧ (outT w).1.has.length ≤ 13 := by
  unfold outT
  split
  · rename_i h
    have hw := settW_ok 20 w 0 (goodW_ok h)
    have := hw.h1; have := hw.h2; have := hw.h3; have := hw.n; have := hw.l
    refine ⟨?_, ?_, ?_, ?_, ?_⟩
    · show (settW 20 w 0).1.pieces.length ≤ 13; omega
    · show (settW 20 w 0).1.heard.length ≤ 13; omega
    · show (settW 20 w 0).1.line.length ≤ 30; omega
    · show (settW 20 w 0).1.held.length ≤ 13; omega
    · show (settW 20 w 0).1.has.length ≤ 13; omega
  · decide
section
variable {N n : Nat} (hN : 4294967296 ≤ N)
include hN
theorem Q_seS (w : Win) (h0 : w.pieces.length ≤ 1048576) (h1 : w.heard.length ≤ 1048576) (h2 : w.line.length ≤ 1048576) (h3 : w.held.length ≤ 1048576) (h4 : w.has.length ≤ 1048576) {μ : PH} {i : Nat} (b0 : bk μ i 0 = some (tB 0 w.pieces)) (b1 : bk μ (i + 1) 0 = some (boolB w.heard)) (b2 : bk μ (i + 2) 0 = some (frmB w.line)) (b3 : bk μ (i + 3) 0 = some (tB 0 w.held)) (b4 : bk μ (i + 4) 0 = some (boolB w.has)) :
    cq S_spec_SettleWindow (qfn P N (n + 9) n_spec_SettleWindow) [winOwn i w] μ = some ([winOwn μ.length (outT w).1, .int .i64 (outT w).2.1, .bool (outT w).2.2], μ ++ wM (outT w).1) := by
  rw [cq_sn rfl (by simp only [sns, S_spec_SettleWindow, snWin b0 b1 b2 b3 b4, Option.bind_some]) (settS (n := n + 1) hN w h0 h1 h2 h3 h4) rfl, adL_w]; rfl
theorem Q_seI (w : Win) (h0 : w.pieces.length ≤ 1048576) (h1 : w.heard.length ≤ 1048576) (h2 : w.line.length ≤ 1048576) (h3 : w.held.length ≤ 1048576) (h4 : w.has.length ≤ 1048576) {μ : PH} {i : Nat} (b0 : bk μ i 0 = some (tB 0 w.pieces)) (b1 : bk μ (i + 1) 0 = some (boolB w.heard)) (b2 : bk μ (i + 2) 0 = some (frmB w.line)) (b3 : bk μ (i + 3) 0 = some (tB 0 w.held)) (b4 : bk μ (i + 4) 0 = some (boolB w.has)) :
    cq S_impl_SettleWindow (qfn P N (n + 9) n_impl_SettleWindow) [winOwn i w] μ = some ([winOwn μ.length (outT w).1, .int .i64 (outT w).2.1, .bool (outT w).2.2], μ ++ wM (outT w).1) := by
  rw [cq_sn rfl (by simp only [sns, S_impl_SettleWindow, snWin b0 b1 b2 b3 b4, Option.bind_some]) (settI (n := n + 1) hN w h0 h1 h2 h3 h4) rfl, adL_w]; rfl
theorem law_settle (w : Win) (hw : w.ok) : ∃ μ', qfn P N (n + 10) n_laws_FnExactSettleWindow [w.enc] [] = some ([.bool true], μ') := by
  rw [laws_FnExactSettleWindow_eq]
  unfold P_laws_FnExactSettleWindow
  simp only [a7_win, fold_win]
  rw [cq_sn (args' := [w.enc, .int .i64 1048576]) rfl (by simp only [sns, S_laws_szWindow, sn_cl _ _ (Win.cl w), snI, Option.bind_some]) (szWindow_ok (n := n + 6) hN w hw 1048576 (by decide) (by decide)) rfl, adL_sc rfl]
  simp only [c1_some, u1_list, qBin_lss, bd_some, qB_bool]
  by_cases hneg : szWin w 1048576 < 0
  · exact ⟨_, by simp only [hneg, decide_true, cond_true]; rfl⟩
  obtain ⟨g0, g1, g2, g3, g4, _⟩ := szWin_bd hneg
  have h0 : w.pieces.length ≤ 1048576 := by omega
  have h1 : w.heard.length ≤ 1048576 := by omega
  have h2 : w.line.length ≤ 1048576 := by omega
  have h3 : w.held.length ≤ 1048576 := by omega
  have h4 : w.has.length ≤ 1048576 := by omega
  simp only [hneg, decide_false, cond_false]
  have hg := outT_len w
  generalize hO : outT w = g at hg
  have b0 : g.1.pieces.length ≤ 1048576 := by omega
  have b1 : g.1.heard.length ≤ 1048576 := by omega
  have b2 : g.1.line.length ≤ 1048576 := by omega
  have b3 : g.1.held.length ≤ 1048576 := by omega
  have b4 : g.1.has.length ≤ 1048576 := by omega
  have hk1 : ¬ (totWin 1 w < 0) := by unfold totWin; omega
  have hk2 : ¬ (totWin 1 g.1 < 0) := by unfold totWin; omega
  rw [Q_toWin hN w h0 h1 h2 h3 h4]
  simp only [c1_some, u1_list, c2_some, u2_list, c3_some, u3_list, b2_some, bd_some, List.length_cons, List.length_nil, List.cons_append, List.nil_append, Nat.zero_add, Nat.reduceAdd, List.set_cons_succ, List.set_cons_zero, wM, a7_winOwn, fold_winOwn]
  rw [Q_seS hN w h0 h1 h2 h3 h4 rfl rfl rfl rfl rfl, hO]
  simp only [c1_some, u1_list, c2_some, u2_list, c3_some, u3_list, b2_some, bd_some, List.length_cons, List.length_nil, List.cons_append, List.nil_append, Nat.zero_add, Nat.reduceAdd, List.set_cons_succ, List.set_cons_zero, wM, a7_winOwn, fold_winOwn]
  rw [Q_toWin hN w h0 h1 h2 h3 h4]
  simp only [c1_some, u1_list, c2_some, u2_list, c3_some, u3_list, b2_some, bd_some, List.length_cons, List.length_nil, List.cons_append, List.nil_append, Nat.zero_add, Nat.reduceAdd, List.set_cons_succ, List.set_cons_zero, wM, a7_winOwn, fold_winOwn]
  rw [Q_seI hN w h0 h1 h2 h3 h4 rfl rfl rfl rfl rfl, hO]
  simp only [c1_some, u1_list, c2_some, u2_list, c3_some, u3_list, b2_some, bd_some, List.length_cons, List.length_nil, List.cons_append, List.nil_append, Nat.zero_add, Nat.reduceAdd, List.set_cons_succ, List.set_cons_zero, wM, a7_winOwn, fold_winOwn]
  rw [Q_eqWin hN g.1 b0 b1 b2 b3 b4 rfl rfl rfl rfl rfl rfl rfl rfl rfl rfl]
  simp only [c1_some, u1_list, c2_some, u2_list, c3_some, u3_list, b2_some, bd_some, List.length_cons, List.length_nil, List.cons_append, List.nil_append, Nat.zero_add, Nat.reduceAdd, List.set_cons_succ, List.set_cons_zero, wM, a7_winOwn, fold_winOwn, qUn_not, qBin_lss, qBin_neq, qBin_bne, qB_bool, Bool.not_true, cond_false, decide_false, beq_self_eq_true, ne_eq, not_true_eq_false]
  rw [Q_toWin hN w h0 h1 h2 h3 h4]
  simp only [c1_some, u1_list, c2_some, u2_list, c3_some, u3_list, b2_some, bd_some, List.length_cons, List.length_nil, List.cons_append, List.nil_append, Nat.zero_add, Nat.reduceAdd, List.set_cons_succ, List.set_cons_zero, wM, a7_winOwn, fold_winOwn]
  rw [Q_eqWin hN w h0 h1 h2 h3 h4 rfl rfl rfl rfl rfl rfl rfl rfl rfl rfl]
  simp only [c1_some, u1_list, c2_some, u2_list, c3_some, u3_list, b2_some, bd_some, List.length_cons, List.length_nil, List.cons_append, List.nil_append, Nat.zero_add, Nat.reduceAdd, List.set_cons_succ, List.set_cons_zero, wM, a7_winOwn, fold_winOwn, qUn_not, qBin_lss, qBin_neq, qBin_bne, qB_bool, Bool.not_true, cond_false, decide_false, beq_self_eq_true, ne_eq, not_true_eq_false]
  rw [markWindow_ok (n := n + 6) hN w 1 (by decide) (by decide) h0 h1 h2 h3 h4 rfl rfl rfl rfl rfl]
  simp only [c1_some, u1_list, c2_some, u2_list, c3_some, u3_list, b2_some, bd_some, List.length_cons, List.length_nil, List.cons_append, List.nil_append, Nat.zero_add, Nat.reduceAdd, List.set_cons_succ, List.set_cons_zero, wM, a7_winOwn, fold_winOwn, hk1, qUn_not, qBin_lss, qBin_neq, qBin_bne, qB_bool, Bool.not_true, cond_false, decide_false, beq_self_eq_true, ne_eq, not_true_eq_false]
  rw [Q_eqWin hN g.1 b0 b1 b2 b3 b4 rfl rfl rfl rfl rfl rfl rfl rfl rfl rfl]
  simp only [c1_some, u1_list, c2_some, u2_list, c3_some, u3_list, b2_some, bd_some, List.length_cons, List.length_nil, List.cons_append, List.nil_append, Nat.zero_add, Nat.reduceAdd, List.set_cons_succ, List.set_cons_zero, wM, a7_winOwn, fold_winOwn, qUn_not, qBin_lss, qBin_neq, qBin_bne, qB_bool, Bool.not_true, cond_false, decide_false, beq_self_eq_true, ne_eq, not_true_eq_false]
  rw [markWindow_ok (n := n + 6) hN g.1 1 (by decide) (by decide) b0 b1 b2 b3 b4 rfl rfl rfl rfl rfl]
  simp only [c1_some, u1_list, c2_some, u2_list, c3_some, u3_list, b2_some, bd_some, List.length_cons, List.length_nil, List.cons_append, List.nil_append, Nat.zero_add, Nat.reduceAdd, List.set_cons_succ, List.set_cons_zero, wM, a7_winOwn, fold_winOwn]
  rw [Q_heldWin hN g.1 1 (by decide) (by decide) b0 b1 b2 b3 b4 rfl rfl rfl rfl rfl]
  simp only [c1_some, u1_list, c2_some, u2_list, c3_some, u3_list, b2_some, bd_some, List.length_cons, List.length_nil, List.cons_append, List.nil_append, Nat.zero_add, Nat.reduceAdd, List.set_cons_succ, List.set_cons_zero, wM, a7_winOwn, fold_winOwn, hk2, qUn_not, qBin_lss, qBin_neq, qBin_bne, qB_bool, Bool.not_true, cond_false, decide_false, beq_self_eq_true, ne_eq, not_true_eq_false]
  rw [Q_toWin hN w h0 h1 h2 h3 h4]
  simp only [c1_some, u1_list, c2_some, u2_list, c3_some, u3_list, b2_some, bd_some, List.length_cons, List.length_nil, List.cons_append, List.nil_append, Nat.zero_add, Nat.reduceAdd, List.set_cons_succ, List.set_cons_zero, wM, a7_winOwn, fold_winOwn]
  rw [Q_seI hN w h0 h1 h2 h3 h4 rfl rfl rfl rfl rfl, hO]
  simp only [c1_some, u1_list, c2_some, u2_list, c3_some, u3_list, b2_some, bd_some, List.length_cons, List.length_nil, List.cons_append, List.nil_append, Nat.zero_add, Nat.reduceAdd, List.set_cons_succ, List.set_cons_zero, wM, a7_winOwn, fold_winOwn]
  rw [Q_eqWin hN g.1 b0 b1 b2 b3 b4 rfl rfl rfl rfl rfl rfl rfl rfl rfl rfl]
  simp only [c1_some, u1_list, c2_some, u2_list, c3_some, u3_list, b2_some, bd_some, List.length_cons, List.length_nil, List.cons_append, List.nil_append, Nat.zero_add, Nat.reduceAdd, List.set_cons_succ, List.set_cons_zero, wM, a7_winOwn, fold_winOwn, qUn_not, qBin_lss, qBin_neq, qBin_bne, qB_bool, Bool.not_true, cond_false, decide_false, beq_self_eq_true, ne_eq, not_true_eq_false]
  rw [Q_heldWin hN g.1 1 (by decide) (by decide) b0 b1 b2 b3 b4 rfl rfl rfl rfl rfl]
  simp only [c1_some, u1_list, c2_some, u2_list, c3_some, u3_list, b2_some, bd_some, List.length_cons, List.length_nil, List.cons_append, List.nil_append, Nat.zero_add, Nat.reduceAdd, List.set_cons_succ, List.set_cons_zero, wM, a7_winOwn, fold_winOwn, hk2, qUn_not, qBin_lss, qBin_neq, qBin_bne, qB_bool, Bool.not_true, cond_false, decide_false, beq_self_eq_true, ne_eq, not_true_eq_false]
  exact ⟨_, rfl⟩
end
end Go.Lg.Pv.Q
namespace Go.Proofs.Ytdiilljbojhpoaa.fnExactSettleWindow
open Go.ChangeShapes Go.WideShapes Go.ChangeAt Go.RowKit
open Go.ChangeMaps (open_string shut_string)
open Go.Lg Go.Lg.Pv Go.Lg.Pv.Q
set_option linter.unusedVariables false
set_option linter.unusedSimpArgs false
set_option maxRecDepth 100000
theorem own : ownKnob Try.prog.godebug = Option.none := by kernel_rfl
theorem laidOut : laidOutB Try.prog = true := by kernel_rfl
structure StrK where
  v : ByteArray
instance : Enc StrK where
  enc z := [.string z.v]
  good z := (z.v.size : Int) ≤ 9223372036854775807
  esz := 1
  eagg := false
  epos := by decide
  esc _ := rfl
  elen _ := rfl
  eones _ := fun v hv => by simp at hv; rcases hv with rfl; rfl
  edflt := ⟨⟨#[]⟩⟩
  egood := by decide
theorem elem_9 {H : Type} {enc : TypeId × Value → H} {w : World} {base : Nat} {spare : Nat → Bool} {held : Bool} (fuel : Nat) (cs : List Value) (x : DataW H × List MemPlace)
    (h : DataW.trod enc Try.prog w base spare held fuel 9 cs = some x) : ∃ y : StrK, cs = Enc.enc y ∧ Enc.good y := by
  obtain ⟨m, e, _, g⟩ := DataW.trod_string Try.underlying9 h
  exact ⟨⟨m⟩, e, len_str g⟩
structure BoolK where
  v : Bool
instance : Enc BoolK where
  enc z := [.bool z.v]
  good z := True
  esz := 1
  eagg := false
  epos := by decide
  esc _ := rfl
  elen _ := rfl
  eones _ := fun v hv => by simp at hv; rcases hv with rfl; rfl
  edflt := ⟨false⟩
  egood := trivial
theorem elem_4 {H : Type} {enc : TypeId × Value → H} {w : World} {base : Nat} {spare : Nat → Bool} {held : Bool} (fuel : Nat) (cs : List Value) (x : DataW H × List MemPlace)
    (h : DataW.trod enc Try.prog w base spare held fuel 4 cs = some x) : ∃ y : BoolK, cs = Enc.enc y ∧ Enc.good y := by
  obtain ⟨m, e, _⟩ := DataW.trod_bool Try.underlying4 h
  exact ⟨⟨m⟩, e, trivial⟩
/-- Frame, as it comes in -/
structure FrmK where
  r : Pv.Q.Frm
instance : Enc FrmK where
  enc z := [.bool z.r.back, .int .i64 z.r.no, .string z.r.text]
  good z := z.r.ok
  esz := 3
  eagg := true
  epos := by decide
  esc h := by cases h
  elen _ := rfl
  eones _ := fun v hv => by simp at hv; rcases hv with rfl | rfl | rfl <;> rfl
  edflt := ⟨⟨false, 0, ⟨#[]⟩⟩⟩
  egood := ⟨by constructor <;> decide, by decide⟩
theorem elem_113 {H : Type} {enc : TypeId × Value → H} {w : World} {base : Nat} {spare : Nat → Bool} {held : Bool} (fuel : Nat) (cs : List Value) (x : DataW H × List MemPlace)
    (h : DataW.trod enc Try.prog w base spare held fuel 113 cs = some x) : ∃ y : FrmK, cs = Enc.enc y ∧ Enc.good y := by
  obtain ⟨xs, n, rfl, _, hl, hx, hf⟩ := DataW.trod_struct Try.underlying113 h
  have hc : Try.prog.cellsOf 113 = 3 := by kernel_rfl
  rw [hc] at hl
  match cs, hl with
  | [ce0, ce1, ce2], _ =>
    have f0 : DataW.trod enc Try.prog w base spare held n 4 (([ce0, ce1, ce2].drop 0).take (Try.prog.cellsOf 4)) = xs[0]? := hf 0 _ rfl
    rw [show Try.prog.cellsOf 4 = 1 from by kernel_rfl, List.getElem?_eq_getElem (by rw [hx]; decide)] at f0
    have f1 : DataW.trod enc Try.prog w base spare held n 3 (([ce0, ce1, ce2].drop 1).take (Try.prog.cellsOf 3)) = xs[1]? := hf 1 _ rfl
    rw [show Try.prog.cellsOf 3 = 1 from by kernel_rfl, List.getElem?_eq_getElem (by rw [hx]; decide)] at f1
    have f2 : DataW.trod enc Try.prog w base spare held n 9 (([ce0, ce1, ce2].drop 2).take (Try.prog.cellsOf 9)) = xs[2]? := hf 2 _ rfl
    rw [show Try.prog.cellsOf 9 = 1 from by kernel_rfl, List.getElem?_eq_getElem (by rw [hx]; decide)] at f2
    obtain ⟨m0, e0, _⟩ := DataW.trod_bool Try.underlying4 f0
    have e0' : [ce0] = [.bool m0] := e0
    cases e0'
    obtain ⟨m1, e1, _, g1⟩ := DataW.trod_int Try.underlying3 f1
    have e1' : [ce1] = [.int .i64 m1] := e1
    cases e1'
    obtain ⟨m2, e2, _, g2⟩ := DataW.trod_string Try.underlying9 f2
    have e2' : [ce2] = [.string m2] := e2
    cases e2'
    exact ⟨⟨⟨m0, m1, m2⟩⟩, rfl, ⟨wf_inI g1, len_str g2⟩⟩
theorem open0 {H : Type} {enc : TypeId × Value → H} {spare : Nat → Bool} {held : Bool} {base base2 : Nat} (w : World) (v : Value) {d : DataW H} {p : List MemPlace} (hv : Value.okWide Try.prog w .any base2 69 v) (h : DataW.Trod enc Try.prog w base spare held 69 v d p) :
    ∃ a : Pv.Q.Win, a.ok ∧ OpensA w v a.enc := by
  obtain ⟨fuel, hf⟩ := h
  simp only [Value.okWide, Try.underlying69] at hv
  obtain ⟨cs, rfl, hcs, ts, hts, _, hrow⟩ := hv
  have hc : Try.prog.cellsOf 69 = 7 := by kernel_rfl
  have hct : Try.prog.cellTypes Try.prog.depth 69 = some [23, 3, 27, 67, 23, 27, 3] := by kernel_rfl
  rw [hct] at hts; cases hts
  rw [hc] at hcs
  obtain ⟨ce0, ce1, ce2, ce3, ce4, ce5, ce6, rfl⟩ : ∃ ce0 ce1 ce2 ce3 ce4 ce5 ce6, cs = #[ce0, ce1, ce2, ce3, ce4, ce5, ce6] := by
    obtain ⟨l⟩ := cs
    match l, hcs with
    | [ce0, ce1, ce2, ce3, ce4, ce5, ce6], _ => exact ⟨ce0, ce1, ce2, ce3, ce4, ce5, ce6, rfl⟩
  obtain ⟨xs, n, rfl, _, _, hx, hff⟩ := DataW.trod_struct Try.underlying69 hf
  have f0 : DataW.trod enc Try.prog w base spare held n 23 (([ce0, ce1, ce2, ce3, ce4, ce5, ce6].drop 0).take (Try.prog.cellsOf 23)) = xs[0]? := hff 0 _ rfl
  rw [show Try.prog.cellsOf 23 = 1 from by kernel_rfl, List.getElem?_eq_getElem (by rw [hx]; decide)] at f0
  have f1 : DataW.trod enc Try.prog w base spare held n 3 (([ce0, ce1, ce2, ce3, ce4, ce5, ce6].drop 1).take (Try.prog.cellsOf 3)) = xs[1]? := hff 1 _ rfl
  rw [show Try.prog.cellsOf 3 = 1 from by kernel_rfl, List.getElem?_eq_getElem (by rw [hx]; decide)] at f1
  have f2 : DataW.trod enc Try.prog w base spare held n 27 (([ce0, ce1, ce2, ce3, ce4, ce5, ce6].drop 2).take (Try.prog.cellsOf 27)) = xs[2]? := hff 2 _ rfl
  rw [show Try.prog.cellsOf 27 = 1 from by kernel_rfl, List.getElem?_eq_getElem (by rw [hx]; decide)] at f2
  have f3 : DataW.trod enc Try.prog w base spare held n 67 (([ce0, ce1, ce2, ce3, ce4, ce5, ce6].drop 3).take (Try.prog.cellsOf 67)) = xs[3]? := hff 3 _ rfl
  rw [show Try.prog.cellsOf 67 = 1 from by kernel_rfl, List.getElem?_eq_getElem (by rw [hx]; decide)] at f3
  have f4 : DataW.trod enc Try.prog w base spare held n 23 (([ce0, ce1, ce2, ce3, ce4, ce5, ce6].drop 4).take (Try.prog.cellsOf 23)) = xs[4]? := hff 4 _ rfl
  rw [show Try.prog.cellsOf 23 = 1 from by kernel_rfl, List.getElem?_eq_getElem (by rw [hx]; decide)] at f4
  have f5 : DataW.trod enc Try.prog w base spare held n 27 (([ce0, ce1, ce2, ce3, ce4, ce5, ce6].drop 5).take (Try.prog.cellsOf 27)) = xs[5]? := hff 5 _ rfl
  rw [show Try.prog.cellsOf 27 = 1 from by kernel_rfl, List.getElem?_eq_getElem (by rw [hx]; decide)] at f5
  have f6 : DataW.trod enc Try.prog w base spare held n 3 (([ce0, ce1, ce2, ce3, ce4, ce5, ce6].drop 6).take (Try.prog.cellsOf 3)) = xs[6]? := hff 6 _ rfl
  rw [show Try.prog.cellsOf 3 = 1 from by kernel_rfl, List.getElem?_eq_getElem (by rw [hx]; decide)] at f6
  obtain ⟨m1, e1, _, g1⟩ := DataW.trod_int Try.underlying3 f1
  have e1' : [ce1] = [.int .i64 m1] := e1
  cases e1'
  obtain ⟨m6, e6, _, g6⟩ := DataW.trod_int Try.underlying3 f6
  have e6' : [ce6] = [.int .i64 m6] := e6
  cases e6'
  have f0 : DataW.trod enc Try.prog w base spare held n 23 [ce0] = some _ := f0
  obtain ⟨u0, hu0, hcell0⟩ := hrow 0 ce0 rfl
  simp at hu0; subst hu0
  obtain ⟨z0, gz0, lz0, op0⟩ := opens_list (α := StrK) (e := 9) elem_9 (fun y c hc => by
      simp only [Enc.enc, List.mem_cons, List.not_mem_nil, or_false] at hc
      rcases hc with rfl <;> rfl) (fun y c hc => by
      simp only [Enc.enc, List.mem_cons, List.not_mem_nil, or_false] at hc
      rcases hc with rfl <;> rfl) (by kernel_rfl) Try.underlying23 (f := fun x => DV.str x.v) (sh := [.sc]) (fun x => rfl) rfl f0 (spot_ok Try.underlying23 hcell0)
  have hm0 : z0.map (fun x => DV.str x.v) = (z0.map (fun x => x.v)).map DV.str := by rw [List.map_map]; rfl
  rw [hm0] at op0
  have gz0' : ∀ y ∈ z0.map (fun x => x.v), (y.size : Int) ≤ 9223372036854775807 := fun y hy => by
    obtain ⟨x, hx, rfl⟩ := List.mem_map.1 hy
    exact gz0 x hx
  have lz0' : ((z0.map (fun x => x.v)).length : Int) ≤ 9223372036854775807 := by rw [List.length_map]; exact lz0
  generalize z0.map (fun x => x.v) = y0 at op0 gz0' lz0'
  have f2 : DataW.trod enc Try.prog w base spare held n 27 [ce2] = some _ := f2
  obtain ⟨u2, hu2, hcell2⟩ := hrow 2 ce2 rfl
  simp at hu2; subst hu2
  obtain ⟨z2, gz2, lz2, op2⟩ := opens_list (α := BoolK) (e := 4) elem_4 (fun y c hc => by
      simp only [Enc.enc, List.mem_cons, List.not_mem_nil, or_false] at hc
      rcases hc with rfl <;> rfl) (fun y c hc => by
      simp only [Enc.enc, List.mem_cons, List.not_mem_nil, or_false] at hc
      rcases hc with rfl <;> rfl) (by kernel_rfl) Try.underlying27 (f := fun x => DV.bool x.v) (sh := [.sc]) (fun x => rfl) rfl f2 (spot_ok Try.underlying27 hcell2)
  have hm2 : z2.map (fun x => DV.bool x.v) = (z2.map (fun x => x.v)).map DV.bool := by rw [List.map_map]; rfl
  rw [hm2] at op2
  have gz2' : ∀ y ∈ z2.map (fun x => x.v), True := fun y hy => by
    obtain ⟨x, hx, rfl⟩ := List.mem_map.1 hy
    exact gz2 x hx
  have lz2' : ((z2.map (fun x => x.v)).length : Int) ≤ 9223372036854775807 := by rw [List.length_map]; exact lz2
  generalize z2.map (fun x => x.v) = y2 at op2 gz2' lz2'
  have f3 : DataW.trod enc Try.prog w base spare held n 67 [ce3] = some _ := f3
  obtain ⟨u3, hu3, hcell3⟩ := hrow 3 ce3 rfl
  simp at hu3; subst hu3
  obtain ⟨z3, gz3, lz3, op3⟩ := opens_list (α := FrmK) (e := 113) elem_113 (fun y c hc => by
      simp only [Enc.enc, List.mem_cons, List.not_mem_nil, or_false] at hc
      rcases hc with rfl | rfl | rfl <;> rfl) (fun y c hc => by
      simp only [Enc.enc, List.mem_cons, List.not_mem_nil, or_false] at hc
      rcases hc with rfl | rfl | rfl <;> rfl) (by kernel_rfl) Try.underlying67 (f := fun x => x.r.enc) (sh := shFrm) (fun x => rfl) rfl f3 (spot_ok Try.underlying67 hcell3)
  have hm3 : z3.map (fun x => x.r.enc) = (z3.map (fun x => x.r)).map Frm.enc := by rw [List.map_map]; rfl
  rw [hm3] at op3
  have gz3' : ∀ y ∈ z3.map (fun x => x.r), y.ok := fun y hy => by
    obtain ⟨x, hx, rfl⟩ := List.mem_map.1 hy
    exact gz3 x hx
  have lz3' : ((z3.map (fun x => x.r)).length : Int) ≤ 9223372036854775807 := by rw [List.length_map]; exact lz3
  generalize z3.map (fun x => x.r) = y3 at op3 gz3' lz3'
  have f4 : DataW.trod enc Try.prog w base spare held n 23 [ce4] = some _ := f4
  obtain ⟨u4, hu4, hcell4⟩ := hrow 4 ce4 rfl
  simp at hu4; subst hu4
  obtain ⟨z4, gz4, lz4, op4⟩ := opens_list (α := StrK) (e := 9) elem_9 (fun y c hc => by
      simp only [Enc.enc, List.mem_cons, List.not_mem_nil, or_false] at hc
      rcases hc with rfl <;> rfl) (fun y c hc => by
      simp only [Enc.enc, List.mem_cons, List.not_mem_nil, or_false] at hc
      rcases hc with rfl <;> rfl) (by kernel_rfl) Try.underlying23 (f := fun x => DV.str x.v) (sh := [.sc]) (fun x => rfl) rfl f4 (spot_ok Try.underlying23 hcell4)
  have hm4 : z4.map (fun x => DV.str x.v) = (z4.map (fun x => x.v)).map DV.str := by rw [List.map_map]; rfl
  rw [hm4] at op4
  have gz4' : ∀ y ∈ z4.map (fun x => x.v), (y.size : Int) ≤ 9223372036854775807 := fun y hy => by
    obtain ⟨x, hx, rfl⟩ := List.mem_map.1 hy
    exact gz4 x hx
  have lz4' : ((z4.map (fun x => x.v)).length : Int) ≤ 9223372036854775807 := by rw [List.length_map]; exact lz4
  generalize z4.map (fun x => x.v) = y4 at op4 gz4' lz4'
  have f5 : DataW.trod enc Try.prog w base spare held n 27 [ce5] = some _ := f5
  obtain ⟨u5, hu5, hcell5⟩ := hrow 5 ce5 rfl
  simp at hu5; subst hu5
  obtain ⟨z5, gz5, lz5, op5⟩ := opens_list (α := BoolK) (e := 4) elem_4 (fun y c hc => by
      simp only [Enc.enc, List.mem_cons, List.not_mem_nil, or_false] at hc
      rcases hc with rfl <;> rfl) (fun y c hc => by
      simp only [Enc.enc, List.mem_cons, List.not_mem_nil, or_false] at hc
      rcases hc with rfl <;> rfl) (by kernel_rfl) Try.underlying27 (f := fun x => DV.bool x.v) (sh := [.sc]) (fun x => rfl) rfl f5 (spot_ok Try.underlying27 hcell5)
  have hm5 : z5.map (fun x => DV.bool x.v) = (z5.map (fun x => x.v)).map DV.bool := by rw [List.map_map]; rfl
  rw [hm5] at op5
  have gz5' : ∀ y ∈ z5.map (fun x => x.v), True := fun y hy => by
    obtain ⟨x, hx, rfl⟩ := List.mem_map.1 hy
    exact gz5 x hx
  have lz5' : ((z5.map (fun x => x.v)).length : Int) ≤ 9223372036854775807 := by rw [List.length_map]; exact lz5
  generalize z5.map (fun x => x.v) = y5 at op5 gz5' lz5'
  exact ⟨⟨y0, m1, y2, y3, y4, y5, m6⟩, ⟨⟨gz0', lz0'⟩, wf_inI g1, ⟨gz2', lz2'⟩, ⟨gz3', lz3'⟩, ⟨gz4', lz4'⟩, ⟨gz5', lz5'⟩, wf_inI g6⟩, Opens.agg (Opens.cons (op0) (Opens.cons (Opens.int w .i64 m1) (Opens.cons (op2) (Opens.cons (op3) (Opens.cons (op4) (Opens.cons (op5) (Opens.cons (Opens.int w .i64 m6) (Opens.nil w))))))))⟩
theorem walk {H : Type} {enc : TypeId × Value → H} {spare : Nat → Bool} {held : Bool} {base base2 : Nat} (w : World) (v0 : Value) {d0 : DataW H} {p0 : List MemPlace} (hv0 : Value.okWide Try.prog w .any base2 69 v0) (h0 : DataW.Trod enc Try.prog w base spare held 69 v0 d0 p0) :
    Calls Try.prog 7 #[v0] w fun e w' => e = .returned (.bool true) ∧ Below w.heap.size w w' := by
  obtain ⟨b0, ok0, op0⟩ := open0 w v0 hv0 h0
  exact law_open envE eqE (goodOf (tis := tis) rfl (by kernel_rfl)) clOk (.cons op0 (.nil)) (law_settle (N := 4294967296) (n := 0) (by decide) b0 ok0)
theorem lifted (os : Os) (started : os.Started) (H : Type) (enc : TypeId × Value → H) :
    ReturnsInHanded {} Try.checked os 7 .any (Rows.fnExactSettleWindowSpec.pre6 enc Try.prog Try.f7 Rows.fnExactSettleWindowRow.domain false) (Rows.fnExactSettleWindowSpec.post enc Try.prog Try.f7 false true false false) := by
  refine returnsInHanded_of_change_sized (C := Try.checked) own started (by kernel_rfl) Try.func7
    (ChangeSpec.witness6 (enc := enc) (C := Try.checked) false ⟨#[], #[.agg #[.slice Option.none 0 0, .int .i64 0, .slice Option.none 0 0, .slice Option.none 0 0, .slice Option.none 0 0, .slice Option.none 0 0, .int .i64 0]], []⟩ 8 (by kernel_rfl) (by kernel_rfl) (by kernel_rfl) (by kernel_rfl)) ?_
  intro W base args ds gs before hval0 hW hcnd hsz0 _
  have hval : ∀ (j : Nat) t v, Try.f7.params[j]? = some t → args[j]? = some v → Value.okWide Try.prog W .any base t v := hval0
  have hW' := hW
  obtain ⟨p, q, hA0, hV, rfl, hfz, hnd⟩ := hW
  have hA : DataW.TrodAll enc Try.prog W 0 (fun _ => true) true Try.f7.params.toList args.toList ds p := hA0
  rw [Try.params7] at hA hval
  obtain ⟨v0, vs0, d0, ds0, p0, q0, hargs, rfl, rfl, h0, r0⟩ := trodAll_cons hA
  obtain ⟨rfl, rfl, rfl⟩ := trodAll_nil r0
  obtain rfl : args = #[v0] := by cases args; simp_all
  obtain ⟨rfl, rfl⟩ := trodVars_none hV
  have k0 := h0
  have lt0 : ∀ x ∈ p0, x.block < W.heap.size := by obtain ⟨m, hm⟩ := k0; exact DataW.trod_lt m _ _ _ hm
  refine (walk W v0 (hval 0 69 v0 rfl rfl) h0).mono fun e W' ⟨he, bel⟩ => ?_
  subst he
  exact ⟨_, rfl, _, _, _, [], _, [], hW', trodAll_mk1 (shut_bool Try.underlying4 _), (trodAll_cons_mk (Below.trod laidOut (by kernel_rfl) (of_decide_eq_true (by kernel_rfl)) k0 bel lt0) trodAll_mk0), rfl, bel.frame _, fun h => by cases h⟩
theorem over : Rows.fnExactSettleWindowRow.holds Try.pinned (OpenSpec.ofChange Rows.fnExactSettleWindowSpec) :=
  OpenClaim.holds_of_wide 7 Try.f7 rfl rfl rfl rfl rfl rfl rfl ⟨rfl, rfl, rfl, rfl, rfl⟩ rfl rfl rfl rfl rfl (by kernel_rfl) Try.func7 (by kernel_rfl)
    (of_decide_eq_true (by kernel_rfl)) (by unfold Func.isWrapper; first | (rw [if_pos (by decide +kernel)]; kernel_rfl) | (rw [if_neg (by decide +kernel)]; exact ⟨rfl, rfl⟩))
    (fun os started H enc _ => lifted os started H enc)
theorem proved : Rows.FnExactSettleWindowSaid := over
end Go.Proofs.Ytdiilljbojhpoaa.fnExactSettleWindow
namespace Go.Proofs.Ytdiilljbojhpoaa
theorem fnExactSettleWindow_holds : Rows.FnExactSettleWindowSaid := fnExactSettleWindow.proved
end Go.Proofs.Ytdiilljbojhpoaa
#print axioms Go.Proofs.Ytdiilljbojhpoaa.fnExactSettleWindow_holds
