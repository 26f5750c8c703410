/- Helpers of the laws: texts, marks, what is within. -/
import Derived.Test.YtdiilljbojhpoaaPackE
import Derived.Test.YtdiilljbojhpoaaPS0
namespace Go.Lg.Pv.Q
open Go Go.Lg Go.Lg.Pv
set_option linter.unusedVariables false
set_option linter.unusedSimpArgs false
set_option maxRecDepth 100000

theorem eqStringS_ok {N n : Nat} (hN : 4294967296 ≤ N) (a b : List ByteArray) (ha : a.length ≤ 1048576) (hb : b.length ≤ 1048576) :
    run1 S_laws_eqStringS (qfn P N (n + 1) n_laws_eqStringS) [.sl [.sc] (a.map DV.str), .sl [.sc] (b.map DV.str)] = some ([.bool (decide (a = b))], []) := by
  refine run1_of (ν := []) rfl rfl rfl (r := [.bool (decide (a = b))]) ?_ (resO_sc rfl)
  rw [laws_eqStringS_eq]
  unfold P_laws_eqStringS
  simp
  by_cases hl : ¬ a.length = b.length
  · have : a ≠ b := fun h => hl (by rw [h])
    simp [this, show ¬ ((a.length : Int) = b.length) by omega]
  have hl := Decidable.of_not_not hl
  simp [hl]
  refine (loop_acc (σ := Unit) (len := a.length) (fun i _ => ([.sl [.sc] (a.map DV.str), .sl [.sc] (b.map DV.str), .int .i64 (i : Nat)] : List DV)) (fun _ _ => []) (fun _ _ => True) (fun i _ => some ([DV.bool (decide (a.drop i = b.drop i))], []))
    ?_ ?_ a.length (i := 0) (s := ()) trivial (by omega) (by omega)).trans (by simp)
  · intro i _ rec hi _
    have hi' : i < b.length := by omega
    have hx := drop_eq hi hi'
    unfold P_laws_eqStringS.l0
    simp [hi, hi']
    by_cases hs : a[i] = b[i]
    · refine .inl ?_
      rw [wrapI (n := (i : Int) + 1) (by constructor <;> omega)]
      simp [hx, hs]
    · refine .inr ?_
      simp [hx, hs]
  · intro _ rec _
    unfold P_laws_eqStringS.l0
    simp [hl]
def chr (k : Int) : ByteArray := ⟨#[UInt8.ofNat (IntKind.u8.wrap (IntKind.i64.wrap (48 + k.tmod 10))).toNat]⟩
def dg : Nat → Int → ByteArray → ByteArray
  | 0, _, out => out
  | f + 1, k, out => if k > 0 then dg f (k.tdiv 10) (chr k ++ out) else out
def mark (k : Int) : ByteArray := ⟨#[109]⟩ ++ dg 13 k ⟨#[]⟩
theorem mark_loop {N : Nat} {call : CW} (bs : Nat) (μ : PH) : ∀ (f M : Nat) (k : Int) (out : ByteArray), k < (10 : Int) ^ f → f < M → out.size + f ≤ 1000 → k ≤ 9223372036854775807 →
    iterD (P_laws_markText.l0 N call bs) M [.int .i64 k, .str out] μ = some ([.str (⟨#[109]⟩ ++ dg f k out)], μ)
  | 0, M, k, out, hk, hM, ho, hi => by
    obtain ⟨M, rfl⟩ : ∃ m, M = m + 1 := ⟨M - 1, by omega⟩
    have hk : ¬ k > 0 := by simp at hk; omega
    simp only [iterD]
    unfold P_laws_markText.l0
    simp [hk, dg]
    rw [qBin_sadd _ _ _ _ (by have : (⟨#[109]⟩ : ByteArray).size = 1 := rfl; omega)]
    rfl
  | f + 1, M, k, out, hk, hM, ho, hi => by
    obtain ⟨M, rfl⟩ : ∃ m, M = m + 1 := ⟨M - 1, by omega⟩
    simp only [iterD]
    unfold P_laws_markText.l0
    by_cases h : k > 0
    · have hq : k.tdiv 10 = k / 10 := Int.tdiv_eq_ediv_of_nonneg (by omega)
      simp only [u2_list, qBin_gtr, bd_some, qB_bool, h, decide_true, cond_true, qBin_rem _ _ _ k 10 (by decide), qBin_add, qInt_int]
      have h1 : ∀ v : Int, qBS μ true [.sc] false [.int .u8 0] 1 1 [(0, .int .u8 v)] = some (.sl [.sc] [.int .u8 v], μ) := fun v => rfl
      have h2 : ∀ v : Int, qB2S μ (.sl [.sc] [.int .u8 v]) = some (.str ⟨#[UInt8.ofNat v.toNat]⟩) := fun v => rfl
      simp only [h1, b2_some, h2, bd_some]
      have hs : (chr k).size = 1 := rfl
      have h3 : qBin μ .str .add (.str ⟨#[UInt8.ofNat (IntKind.u8.wrap (IntKind.i64.wrap (48 + k.tmod 10))).toNat]⟩) (.str out) = some (.str (chr k ++ out)) :=
        qBin_sadd μ .str (chr k) out (by omega)
      rw [h3]
      simp only [bd_some, qBin_quo _ _ _ k 10 (by decide)]
      have hb : k.tdiv 10 < (10 : Int) ^ f := by
        rw [hq]; rw [Int.pow_succ] at hk; omega
      have hr : IntKind.i64.wrap (k.tdiv 10) = k.tdiv 10 := by
        rw [hq]; exact wrapI (by constructor <;> omega)
      rw [hr]
      refine (mark_loop (N := N) (call := call) bs μ f M _ _ hb (by omega) (by rw [ByteArray.size_append]; omega) (by rw [hq]; omega)).trans ?_
      simp [dg, h]
    · simp [h, dg]
      rw [qBin_sadd _ _ _ _ (by have : (⟨#[109]⟩ : ByteArray).size = 1 := rfl; omega)]
      rfl
theorem markText_ok {N n : Nat} (hN : 4294967296 ≤ N) (k : Int) (h0 : 0 < k) (h1 : k < 10000000000000) :
    run1 S_laws_markText (qfn P N (n + 1) n_laws_markText) [.int .i64 k] = some ([.str (mark k)], []) := by
  refine run1_of (ν := []) rfl rfl rfl (r := [.str (mark k)]) ?_ (resO_sc rfl)
  rw [laws_markText_eq]
  unfold P_laws_markText
  simp only [qBin_leq, bd_some, qB_bool, show ¬ k ≤ 0 by omega, decide_false, cond_false]
  exact mark_loop 0 [] 13 N k _ (by simpa using h1) (by omega) (by decide) (by omega)
theorem cq_mark {N n : Nat} (hN : 4294967296 ≤ N) (μ : PH) (k : Int) (h0 : 0 < k) (h1 : k < 10000000000000) :
    cq S_laws_markText (qfn P N (n + 1) n_laws_markText) [.int .i64 k] μ = some ([.str (mark k)], μ) := by
  rw [cq_sn (args' := [.int .i64 k]) rfl rfl (markText_ok hN k h0 h1) rfl, adL_sc rfl]
def marks (k : Int) (n : Nat) : List ByteArray := (List.range n).map fun i => mark (k + (i : Nat))
theorem marks_len (k : Int) (n : Nat) : (marks k n).length = n := by simp [marks]
theorem marks_get (k : Int) (n i : Nat) (h : i < (marks k n).length) : (marks k n)[i] = mark (k + (i : Nat)) := by simp [marks]

theorem markStringS_ok {N n : Nat} (hN : 4294967296 ≤ N) {μ : PH} {id ver c : Nat} {x : Bool} {b : PB} {xs : List ByteArray} {k : Int} (hb : bk μ id ver = some b) (hel : b.el = xs.map DV.str) (hsh : b.sh = [.sc]) (hop : b.op = false)
    (hn : xs.length ≤ 1048576) (h0 : 0 < k) (h1 : k ≤ 100000000) :
    qfn P N (n + 2) n_laws_markStringS [.own id ver 0 xs.length c x, .int .i64 k] μ = some ([.int .i64 (k + xs.length)], μ.set id { b with el := (marks k xs.length).map DV.str }) := by
  have hid : id < μ.length := bk_lt hb
  have hlv := (bk_some hb).2
  rw [laws_markStringS_eq]
  unfold P_laws_markStringS
  have hm0 : μ = μ.set id { b with el := (mix (marks k xs.length) xs 0).map DV.str } := by
    rw [mix_zero, ← hel]; exact (bk_self hb).symm
  have hml := marks_len k xs.length
  conv => lhs; rw [hm0]
  refine Eq.trans (by simp) (loop_acc (F := P_laws_markStringS.l0 N (qfn P N (n + 1)) μ.length) (N := N) (σ := Unit) (len := xs.length) (fun i _ => ([.own id ver 0 xs.length c x, .int .i64 (k + (i : Nat)), .int .i64 (i : Nat)] : List DV)) (fun i _ => μ.set id { b with el := (mix (marks k xs.length) xs i).map DV.str })
    (fun _ _ => True) (fun i _ => some ([DV.int .i64 (k + xs.length)], μ.set id { b with el := (marks k xs.length).map DV.str })) ?_ ?_ xs.length (i := 0) (s := ()) trivial (by omega) (by omega))
  · intro i _ rec hi _
    refine .inl ⟨(), trivial, ?_, rfl⟩
    have hbk : bk (μ.set id { b with el := (mix (marks k xs.length) xs i).map DV.str }) id ver = some { b with el := (mix (marks k xs.length) xs i).map DV.str } := by
      have := bk_set (μ := μ) (b := { b with el := (mix (marks k xs.length) xs i).map DV.str }) hid hlv.1
      rw [← hlv.2]; exact this
    unfold P_laws_markStringS.l0
    simp only [u3_list, qLen_own hbk, bd_some, qBin_lss, qB_bool, Int.ofNat_lt, hi, decide_true, cond_true, cq_mark hN _ (k + (i : Nat)) (by omega) (by omega), c1_some, u1_list]
    have hi' : i < (marks k xs.length).length := by omega
    simp only [qIA_own (size := 1) hbk rfl hi (by rw [hsh]; rfl), bd_some, Nat.zero_add]
    rw [qSt_ptr (size := 1) (cs := [.str (mark (k + (i : Nat)))]) hbk (e := .str xs[i]) (by rw [List.getElem?_map, mix_get hml hi']; rfl) rfl (Nat.le_refl 1) (by rw [hop, hsh]; rfl)]
    simp only [bd_some, qBin_add]
    rw [wrapI (n := (i : Int) + 1) (by constructor <;> omega), wrapI (n := k + (i : Nat) + 1) (by constructor <;> omega)]
    have h2 : mkE (.str xs[i]) (overD (cellsD (.str xs[i])) 0 [.str (mark (k + (i : Nat)))]) = .str (mark (k + (i : Nat))) := rfl
    have h3 : ((mix (marks k xs.length) xs i).map DV.str).set i (.str (mark (k + (i : Nat)))) = (mix (marks k xs.length) xs (i + 1)).map DV.str := by
      rw [← mix_set hml hi', marks_get, List.map_set]
    simp only [h2, h3, List.set_set]
    rw [show k + (i : Nat) + 1 = k + ((i + 1 : Nat) : Int) by omega]
    rfl
  · intro _ rec _
    have hbk : bk (μ.set id { b with el := (mix (marks k xs.length) xs xs.length).map DV.str }) id ver = some { b with el := (mix (marks k xs.length) xs xs.length).map DV.str } := by
      have := bk_set (μ := μ) (b := { b with el := (mix (marks k xs.length) xs xs.length).map DV.str }) hid hlv.1
      rw [← hlv.2]; exact this
    unfold P_laws_markStringS.l0
    have hlast : mix (marks k xs.length) xs xs.length = marks k xs.length := by
      conv => lhs; rw [← hml]
      rw [hml]; conv => lhs; arg 3; rw [← hml]
      exact mix_last hml
    simp [qLen_own hbk]
    rw [hlast]
theorem heldStringS_ok {N n : Nat} (hN : 4294967296 ≤ N) (m : Nat) (k : Int) (hn : m ≤ 1048576) (h0 : 0 < k) (h1 : k ≤ 100000000) :
    run1 S_laws_heldStringS (qfn P N (n + 2) n_laws_heldStringS) [.sl [.sc] ((marks k m).map DV.str), .int .i64 k] = some ([.int .i64 (k + m)], []) := by
  refine run1_of (ν := []) rfl rfl rfl (r := [.int .i64 (k + m)]) ?_ (resO_sc rfl)
  rw [laws_heldStringS_eq]
  unfold P_laws_heldStringS
  have hml := marks_len k m
  refine Eq.trans (by simp) (loop_acc (F := P_laws_heldStringS.l0 N (qfn P N (n + 1)) 0) (N := N) (σ := Unit) (len := m) (fun i _ => ([.sl [.sc] ((marks k m).map DV.str), .int .i64 (k + (i : Nat)), .int .i64 (i : Nat)] : List DV)) (fun _ _ => [])
    (fun _ _ => True) (fun i _ => some ([DV.int .i64 (k + m)], [])) ?_ ?_ m (i := 0) (s := ()) trivial (by omega) (by omega))
  · intro i _ rec hi _
    refine .inl ⟨(), trivial, ?_, rfl⟩
    have hi' : i < (marks k m).length := by omega
    unfold P_laws_heldStringS.l0
    simp only [u3_list, qLen_sl, List.length_map, hml, bd_some, qBin_lss, qB_bool, Int.ofNat_lt, hi, decide_true, cond_true, qIA_map _ (show [Sh.sc].length = 1 from rfl) hi', qLd_rp, cellsD_str, getC_one, List.getElem?_cons_zero, Option.map_some, b2_some,
      cq_mark hN _ (k + (i : Nat)) (by omega) (by omega), c1_some, u1_list, stand_rp, qBin_sneq, marks_get, ne_eq, not_true_eq_false, decide_false, cond_false, qBin_add]
    rw [wrapI (n := (i : Int) + 1) (by constructor <;> omega), wrapI (n := k + (i : Nat) + 1) (by constructor <;> omega)]
    rw [show k + (i : Nat) + 1 = k + ((i + 1 : Nat) : Int) by omega]
    rfl
  · intro _ rec _
    unfold P_laws_heldStringS.l0
    simp [hml]
theorem txt_cl (l : List ByteArray) : clL (l.map DV.str) = true := clL_map (fun _ => rfl) l
/-- a block of texts -/
def tB (v : Nat) (bl : List ByteArray) : PB := ⟨v, [.sc], bl.map DV.str, true, false, true⟩
theorem own_all {b : PB} {l : List DV} {n : Nat} (h : b.el = l) (hn : n = l.length) : (b.el.drop 0).take n = l := by subst hn; rw [h]; simp
theorem snT {μ : PH} {i m : Nat} {b : PB} {s : List Sh} {O : List ByteArray} (hi : bk μ i 0 = some b) (hs : b.sh = [.sc]) (he : b.el = O.map DV.str) (hm : m = O.length) : sn μ s (.own i 0 0 m m false) = some (.sl [.sc] (O.map DV.str)) := by
  rw [← hs]; exact sn_own hi (own_all he (by simp [hm])) (txt_cl O)
theorem snI (μ : PH) (s : List Sh) (k : IntKind) (a : Int) : sn μ s (.int k a) = some (.int k a) := sn_cl _ _ rfl
def szTs : List ByteArray → Int → Int
  | [], left => left
  | s :: l, left => if left - s.size < 0 then -1 else szTs l (left - s.size)
theorem szTs_le : ∀ {l : List ByteArray} {left : Int}, szTs l left ≤ left ∨ szTs l left < 0
  | [], left => .inl (by simp [szTs])
  | s :: l, left => by
    simp only [szTs]; split
    · exact .inr (by decide)
    · rcases szTs_le (l := l) (left := left - s.size) with h | h
      · left; omega
      · exact .inr h
def szTexts (l : List ByteArray) (left : Int) : Int := if left - l.length < 0 then -1 else szTs l (left - l.length)
theorem szStringS_ok {N n : Nat} (hN : 4294967296 ≤ N) (l : List ByteArray) (left : Int) (h0 : 0 ≤ left) (h1 : left ≤ 1048576) (hl : ∀ s ∈ l, (s.size : Int) ≤ 9223372036854775807) (hlen : (l.length : Int) ≤ 9223372036854775807) :
    run1 S_laws_szStringS (qfn P N (n + 1) n_laws_szStringS) [.sl [.sc] (l.map DV.str), .int .i64 left] = some ([.int .i64 (szTexts l left)], []) := by
  refine run1_of (ν := []) rfl rfl rfl (r := [.int .i64 (szTexts l left)]) ?_ (resO_sc rfl)
  rw [laws_szStringS_eq]
  unfold P_laws_szStringS szTexts
  simp
  rw [wrapI (n := left - (l.length : Nat)) (by constructor <;> omega)]
  split <;> rename_i hlt
  · rfl
  refine (loop_acc (σ := Int) (len := l.length) (fun i left => ([.sl [.sc] (l.map DV.str), .int .i64 left, .int .i64 (i : Nat)] : List DV)) (fun _ _ => []) (fun _ left => 0 ≤ left ∧ left ≤ 1048576) (fun i left => some ([DV.int .i64 (szTs (l.drop i) left)], []))
    ?_ ?_ l.length (i := 0) (s := left - l.length) ⟨by omega, by omega⟩ (by omega) (by omega)).trans (by simp)
  · intro i left rec hi ⟨g0, g1⟩
    have hx : l.drop i = l[i] :: l.drop (i + 1) := List.drop_eq_getElem_cons hi
    have hsz := hl _ (List.getElem_mem hi)
    unfold P_laws_szStringS.l0
    rw [hx]
    simp only [u3_list, qLen_sl, List.length_map, bd_some, qBin_lss, qB_bool, Int.ofNat_lt, hi, decide_true, cond_true, qIA_map _ (show [Sh.sc].length = 1 from rfl) hi, qLd_rp, cellsD_str, getC_one, List.getElem?_cons_zero, Option.map_some, b2_some, qLs_str, qBin_sub]
    rw [wrapI (n := left - (l[i].size : Nat)) (by constructor <;> omega)]
    by_cases hs : left - (l[i].size : Nat) < 0
    · refine .inr ?_
      simp [szTs, hs]
    · refine .inl ⟨left - (l[i].size : Nat), by omega, ?_, ?_⟩
      · simp only [hs, decide_false, cond_false, qBin_add, bd_some]
        rw [wrapI (n := (i : Int) + 1) (by constructor <;> omega)]
        rfl
      · simp [szTs, hs]
  · intro left rec _
    unfold P_laws_szStringS.l0
    simp [szTs]
/-- the block of a copy -/
def cpT (l : List ByteArray) (i : Nat) : PB := ⟨0, [.sc], (pre l ⟨#[]⟩ i).map DV.str, true, false, true⟩
theorem toStringS_ok {N n : Nat} (hN : 4294967296 ≤ N) (l : List ByteArray) (hlen : l.length ≤ 1048576) :
    run1 S_laws_toStringS (qfn P N (n + 1) n_laws_toStringS) [.sl [.sc] (l.map DV.str)] = some ([.sl [.sc] (l.map DV.str)], []) := by
  refine run1_of (ν := [cpT l l.length]) (ν' := kl [cpT l l.length] 0) rfl rfl rfl (r := [.own 0 0 0 l.length l.length true]) ?_ ?_
  · rw [laws_toStringS_eq]
    unfold P_laws_toStringS
    have h1 : (l.length : Int) * 16 ≤ 140737488355328 := by omega
    have h2 : (l.length : Int) ≤ 9223372036854775807 := by omega
    have hms : qMS [] [.sc] false [.str ⟨#[]⟩] 1 16 (.int .i64 l.length) (.int .i64 l.length) = some (.own 0 0 0 l.length l.length true, [cpT l 0]) := by
      simp [qMS, h1, h2, cpT, pre_zero, okC, isSc]
      exact .inr rfl
    simp only [qLen_sl, bd_some, List.length_map, hms, b2_some]
    refine (loop_acc (σ := Unit) (len := l.length) (fun i _ => ([.sl [.sc] (l.map DV.str), .own 0 0 0 l.length l.length true, .int .i64 (i : Nat)] : List DV)) (fun i _ => [cpT l i]) (fun _ _ => True) (fun i _ => some ([DV.own 0 0 0 l.length l.length true], [cpT l l.length]))
      ?_ ?_ l.length (i := 0) (s := ()) trivial (by omega) (by omega))
    · intro i _ rec hi _
      refine .inl ⟨(), trivial, ?_, rfl⟩
      unfold P_laws_toStringS.l0
      simp only [u3_list, qLen_sl, List.length_map, bd_some, qBin_lss, qB_bool, Int.ofNat_lt, hi, decide_true, cond_true, qIA_map _ (show [Sh.sc].length = 1 from rfl) hi, qLd_rp, cellsD_str, getC_one, List.getElem?_cons_zero, Option.map_some, b2_some]
      have hb : bk [cpT l i] 0 0 = some (cpT l i) := rfl
      have hg : (cpT l i).el[i]? = some (.str ((pre l ⟨#[]⟩ i)[i]'(by rw [pre_len _ _ _ (by omega)]; exact hi))) := by simp [cpT, pre_len _ _ _ (Nat.le_of_lt hi), hi]
      simp only [qIA_own (size := 1) hb rfl hi (show (cpT l i).sh.length = 1 from rfl), bd_some, Nat.zero_add]
      rw [qSt_ptr (size := 1) (cs := [.str l[i]]) hb hg rfl (Nat.le_refl 1) rfl]
      simp only [bd_some, qBin_add]
      rw [wrapI (n := (i : Int) + 1) (by constructor <;> omega)]
      have : ([cpT l i].set 0 { cpT l i with el := (cpT l i).el.set i (.str l[i]) }) = [cpT l (i + 1)] := by
        simp [cpT, ← pre_set l ⟨#[]⟩ i hi, List.map_set]
      exact congrArg (rec _) this
    · intro _ rec _
      unfold P_laws_toStringS.l0
      simp
  · have hb : bk [cpT l l.length] 0 0 = some (cpT l l.length) := rfl
    have he : ((cpT l l.length).el.drop 0).take l.length = l.map DV.str := by simp only [cpT, pre_last, List.drop_zero]; exact List.take_of_length_le (by simp)
    have hc : clL (l.map DV.str) = true := txt_cl l
    simp only [resO, S_laws_toStringS, onS, tk_own hb rfl rfl he hc, Option.bind_some]
    rfl
theorem txts_cl (l : List ByteArray) : cl (.sl [.sc] (l.map DV.str)) = true := by simp only [Pv.cl]; exact txt_cl l
theorem szTexts_le {l : List ByteArray} {left : Int} (h : ¬ szTexts l left < 0) : szTexts l left + l.length ≤ left := by
  unfold szTexts at h ⊢
  split
  · rename_i h'; rw [if_pos h'] at h; exact absurd (by decide) h
  · rename_i h'; rw [if_neg h'] at h
    rcases szTs_le (l := l) (left := left - l.length) with h'' | h''
    · omega
    · exact absurd h'' h
theorem cq_toS {N n : Nat} (hN : 4294967296 ≤ N) (l : List ByteArray) (hlen : l.length ≤ 1048576) (μ : PH) : cq S_laws_toStringS (qfn P N (n + 1) n_laws_toStringS) [.sl [.sc] (l.map DV.str)] μ = some ([.own μ.length 0 0 l.length l.length false], μ ++ [tB 0 l]) := by
  rw [cq_sn (args' := [.sl [.sc] (l.map DV.str)]) rfl (by simp only [sns, S_laws_toStringS, sn_cl _ _ (txts_cl l), Option.bind_some]) (toStringS_ok hN l hlen) rfl, adL_sl]
  simp only [List.length_map]; rfl
theorem within_ok {N n : Nat} (μ : PH) (a l h : Int) : cq S_impl_within (qfn P N (n + 1) n_impl_within) [.int .i64 a, .int .i64 l, .int .i64 h] μ = some ([.bool (decide (l ≤ a) && decide (a ≤ h))], μ) := by
  rw [cq_sn (args' := [.int .i64 a, .int .i64 l, .int .i64 h]) (res := [.bool (decide (l ≤ a) && decide (a ≤ h))]) rfl rfl ?_ rfl, adL_sc rfl]
  refine run1_of (ν := []) rfl rfl rfl (r := [.bool (decide (l ≤ a) && decide (a ≤ h))]) ?_ (resO_sc rfl)
  rw [impl_within_eq]
  unfold P_impl_within
  by_cases h1 : l ≤ a <;> simp [h1]
theorem l1In_ok {N n : Nat} (μ : PH) (a l h : Int) : cq S_spec_l1In (qfn P N (n + 1) n_spec_l1In) [.int .i64 a, .int .i64 l, .int .i64 h] μ = some ([.bool (decide (l ≤ a) && decide (a ≤ h))], μ) := by
  rw [cq_sn (args' := [.int .i64 a, .int .i64 l, .int .i64 h]) (res := [.bool (decide (l ≤ a) && decide (a ≤ h))]) rfl rfl ?_ rfl, adL_sc rfl]
  refine run1_of (ν := []) rfl rfl rfl (r := [.bool (decide (l ≤ a) && decide (a ≤ h))]) ?_ (resO_sc rfl)
  rw [spec_l1In_eq]
  unfold P_spec_l1In
  by_cases h1 : l ≤ a <;> simp [h1]
theorem flatL_txt : ∀ l : List ByteArray, flatL (l.map DV.str) = true
  | [] => rfl
  | x :: r => by simp [flatL, flat, flatL_txt r]
theorem szTexts_bd {l : List ByteArray} {left : Int} (h : ¬ szTexts l left < 0) : (l.length : Int) ≤ left ∧ szTexts l left ≤ left := by
  have := szTexts_le h; omega
def szStep (x : Int) (k : Int → Int) : Int := if x < 0 then -1 else k x
theorem szStep_neg {x : Int} {k : Int → Int} (h : ¬ x < 0) : szStep x k = k x := if_neg h
theorem szStep_lt {x : Int} {k : Int → Int} (h : x < 0) : szStep x k = -1 := if_pos h
theorem cq_eqT {N n : Nat} (hN : 4294967296 ≤ N) (O : List ByteArray) (hO : O.length ≤ 1048576) {μ : PH} {i j : Nat} (hi : bk μ i 0 = some (tB 0 O)) (hj : bk μ j 0 = some (tB 0 O)) : cq S_laws_eqStringS (qfn P N (n + 1) n_laws_eqStringS) [.own i 0 0 O.length O.length false, .own j 0 0 O.length O.length false] μ = some ([.bool true], μ) := by
  rw [cq_sn (args' := [.sl [.sc] (O.map DV.str), .sl [.sc] (O.map DV.str)]) rfl (by simp only [sns, S_laws_eqStringS, snT hi rfl rfl rfl, snT hj rfl rfl rfl, Option.bind_some]) (eqStringS_ok (n := n) hN O O hO hO) rfl, adL_sc rfl]
  simp
theorem cq_heldT {N n : Nat} (hN : 4294967296 ≤ N) (m : Nat) (k : Int) (hn : m ≤ 1048576) (h0 : 0 < k) (h1 : k ≤ 100000000) {μ : PH} {args : List DV} (hs : sns μ S_laws_heldStringS.ps args = some [.sl [.sc] ((marks k m).map DV.str), .int .i64 k]) :
    cq S_laws_heldStringS (qfn P N (n + 2) n_laws_heldStringS) args μ = some ([.int .i64 (k + m)], μ) := by
  rw [cq_sn rfl hs (heldStringS_ok hN m k hn h0 h1) rfl, adL_sc rfl]
end Go.Lg.Pv.Q
namespace Go.Lg.Pv.Q
open Go Go.Lg Go.Lg.Pv
set_option linter.unusedVariables false
set_option linter.unusedSimpArgs false
set_option maxRecDepth 100000

structure Frm where
  back : Bool
  no : Int
  text : ByteArray
def Frm.enc (r : Frm) : DV := .agg [.bool r.back, .int .i64 r.no, .str r.text]
abbrev shFrm : List Sh := [.sc, .sc, .sc]
def Frm.ok (r : Frm) : Prop := inI r.no ∧ (r.text.size : Int) ≤ 9223372036854775807
theorem Frm.get (r : Frm) : getC (cellsD r.enc) 0 3 true = some r.enc := rfl
theorem Frm.cl (r : Frm) : cl r.enc = true := rfl
theorem frms_cl (l : List Frm) : Pv.cl (.sl shFrm (l.map Frm.enc)) = true := by simp only [Pv.cl]; exact clL_map Frm.cl l
theorem Frm.ext_iff' (a b : Frm) : (a = b) ↔ a.back = b.back ∧ a.no = b.no ∧ a.text = b.text := by cases a; cases b; simp
instance : DecidableEq Frm := fun a b => decidable_of_iff _ (Frm.ext_iff' a b).symm
def frm0 : Frm := ⟨false, 0, ⟨#[]⟩⟩
/-- the block of a slice -/
def frmB (l : List Frm) : PB := ⟨0, shFrm, l.map Frm.enc, true, false, true⟩
theorem Frm.ok_s {r : Frm} (h : r.ok) : (r.text.size : Int) ≤ 9223372036854775807 := h.2
def szFrm (r : Frm) (left : Int) : Int := if left - r.text.size < 0 then -1 else left - r.text.size
def szFrms : List Frm → Int → Int
  | [], left => left
  | r :: l, left => if szFrm r left < 0 then -1 else szFrms l (szFrm r left)
theorem szFrm_le {r : Frm} {left : Int} (h : ¬ szFrm r left < 0) : 0 ≤ szFrm r left ∧ szFrm r left + r.text.size = left := by
  unfold szFrm at h ⊢; split <;> rename_i h'
  · rw [if_pos h'] at h; exact absurd (by decide) h
  · omega
theorem szFrms_le : ∀ {l : List Frm} {left : Int}, ¬ szFrms l left < 0 → ∀ r ∈ l, (r.text.size : Int) ≤ left
  | r :: l, left, h, x, hx => by
    simp only [szFrms] at h
    split at h <;> rename_i h'
    · exact absurd (by decide) h
    · have := szFrm_le h'
      rcases List.mem_cons.1 hx with rfl | hx
      · omega
      · have := szFrms_le h x hx; omega
def szFrmS (l : List Frm) (left : Int) : Int := if left - l.length < 0 then -1 else szFrms l (left - l.length)
theorem szFrmS_le {l : List Frm} {left : Int} (h : ¬ szFrmS l left < 0) : (l.length : Int) ≤ left := by
  unfold szFrmS at h; split at h <;> rename_i h'
  · exact absurd (by decide) h
  · omega
theorem szFrms_up : ∀ {l : List Frm} {left : Int}, ¬ szFrms l left < 0 → szFrms l left ≤ left
  | [], left, h => by simp [szFrms]
  | r :: l, left, h => by
    simp only [szFrms] at h ⊢
    split at h <;> rename_i h'
    · exact absurd (by decide) h
    · rw [if_neg h']
      have := szFrm_le h'
      have := szFrms_up h
      omega
theorem szFrmS_bd {l : List Frm} {left : Int} (h : ¬ szFrmS l left < 0) : (l.length : Int) ≤ left ∧ szFrmS l left ≤ left := by
  refine ⟨szFrmS_le h, ?_⟩
  unfold szFrmS at h ⊢; split at h <;> rename_i h'
  · exact absurd (by decide) h
  · rw [if_neg h']; have := szFrms_up h; omega
theorem szFrame_ok {N n : Nat} (r : Frm) (left : Int) (h0 : 0 ≤ left) (h1 : left ≤ 1048576) (hr : r.ok) :
    run1 S_laws_szFrame (qfn P N (n + 1) n_laws_szFrame) [r.enc, .int .i64 left] = some ([.int .i64 (szFrm r left)], []) := by
  have hr := Frm.ok_s hr
  refine run1_of (ν := []) rfl rfl rfl (r := [.int .i64 (szFrm r left)]) ?_ (resO_sc rfl)
  rw [laws_szFrame_eq]
  unfold P_laws_szFrame Frm.enc szFrm
  simp
  rw [wrapI (n := left - (r.text.size : Nat)) (by constructor <;> omega)]
  split <;> rfl
theorem szFrameS_ok {N n : Nat} (hN : 4294967296 ≤ N) (l : List Frm) (left : Int) (h0 : 0 ≤ left) (h1 : left ≤ 1048576) (hl : ∀ r ∈ l, r.ok) (hlen : (l.length : Int) ≤ 9223372036854775807) :
    run1 S_laws_szFrameS (qfn P N (n + 2) n_laws_szFrameS) [.sl shFrm (l.map Frm.enc), .int .i64 left] = some ([.int .i64 (szFrmS l left)], []) := by
  unfold szFrmS
  refine run1_of (ν := []) rfl rfl rfl (r := [.int .i64 (if left - l.length < 0 then -1 else szFrms l (left - l.length))]) ?_ (resO_sc rfl)
  rw [laws_szFrameS_eq]
  unfold P_laws_szFrameS
  simp
  rw [wrapI (n := left - (l.length : Nat)) (by constructor <;> omega)]
  split <;> rename_i hlt
  · rfl
  refine (loop_acc (σ := Int) (len := l.length) (fun i left => ([.sl shFrm (l.map Frm.enc), .int .i64 left, .int .i64 (i : Nat)] : List DV)) (fun _ _ => []) (fun _ left => 0 ≤ left ∧ left ≤ 1048576) (fun i left => some ([DV.int .i64 (szFrms (l.drop i) left)], []))
    ?_ ?_ l.length (i := 0) (s := left - l.length) ⟨by omega, by omega⟩ (by omega) (by omega)).trans (by simp)
  · intro i left rec hi ⟨g0, g1⟩
    have hx : l.drop i = l[i] :: l.drop (i + 1) := List.drop_eq_getElem_cons hi
    unfold P_laws_szFrameS.l0
    rw [hx]
    simp only [u3_list, qLen_sl, List.length_map, bd_some, qBin_lss, qB_bool, Int.ofNat_lt, hi, decide_true, cond_true, qIA_map _ (show shFrm.length = 3 from rfl) hi, qLd_rp, Frm.get]
    simp only [Option.map_some, b2_some]
    rw [cq_sn (args' := [l[i].enc, .int .i64 left]) rfl (by simp [sns, S_laws_szFrame, sn_cl _ _ (Frm.cl _), sn_cl _ _ (show cl (.int .i64 left) = true from rfl)]) (szFrame_ok l[i] left g0 g1 (hl _ (List.getElem_mem hi))) rfl]
    rw [adL_sc rfl]
    simp only [c1_some, bd_some, qBin_lss, qB_bool]
    by_cases hs : szFrm l[i] left < 0
    · refine .inr ?_
      simp [szFrms, hs]
    · refine .inl ⟨szFrm l[i] left, ?_, ?_, ?_⟩
      · have := szFrm_le hs; omega
      · have hb : (l.length : Int) ≤ 1048576 := by omega
        simp only [u1_list, bd_some, qBin_lss, qB_bool, hs, decide_false, cond_false, qBin_add]
        rw [wrapI (n := (i : Int) + 1) (by constructor <;> omega)]
        rfl
      · simp [szFrms, hs]
  · intro left rec _
    unfold P_laws_szFrameS.l0
    simp [szFrms]
theorem toFrame_ok {N n : Nat} (r : Frm) : run1 S_laws_toFrame (qfn P N (n + 1) n_laws_toFrame) [r.enc] = some ([r.enc], []) := by
  refine run1_of (ν := []) rfl rfl rfl (r := [r.enc]) ?_ (resO_agg rfl)
  rw [laws_toFrame_eq]
  unfold P_laws_toFrame Frm.enc
  simp
def cpFrm (l : List Frm) (i : Nat) : PB := ⟨0, shFrm, (pre l frm0 i).map Frm.enc, true, false, true⟩
theorem adL_frm (μ : PH) (r : Frm) : adL true μ [r.enc] = ([r.enc], μ) := adL_agg rfl
theorem toFrameS_ok {N n : Nat} (hN : 4294967296 ≤ N) (l : List Frm) (hlen : l.length ≤ 1048576) :
    run1 S_laws_toFrameS (qfn P N (n + 2) n_laws_toFrameS) [.sl shFrm (l.map Frm.enc)] = some ([.sl shFrm (l.map Frm.enc)], []) := by
  refine run1_of (ν := [cpFrm l l.length]) (ν' := kl [cpFrm l l.length] 0) rfl rfl rfl (r := [.own 0 0 0 l.length l.length true]) ?_ ?_
  · rw [laws_toFrameS_eq]
    unfold P_laws_toFrameS
    have h1 : (l.length : Int) * 32 ≤ 140737488355328 := by omega
    have h2 : (l.length : Int) ≤ 9223372036854775807 := by omega
    have hms : qMS [] [.sc, .sc, .sc] true [.bool false, .int .i64 0, .str ⟨#[]⟩] 3 32 (.int .i64 l.length) (.int .i64 l.length) = some (.own 0 0 0 l.length l.length true, [cpFrm l 0]) := by
      simp [qMS, h1, h2, cpFrm, pre_zero, okC, isSc]
      exact .inr rfl
    simp only [qLen_sl, bd_some, List.length_map, hms, b2_some]
    refine (loop_acc (σ := Unit) (len := l.length) (fun i _ => ([.sl shFrm (l.map Frm.enc), .own 0 0 0 l.length l.length true, .int .i64 (i : Nat)] : List DV)) (fun i _ => [cpFrm l i]) (fun _ _ => True) (fun i _ => some ([DV.own 0 0 0 l.length l.length true], [cpFrm l l.length]))
      ?_ ?_ l.length (i := 0) (s := ()) trivial (by omega) (by omega))
    · intro i _ rec hi _
      refine .inl ⟨(), trivial, ?_, rfl⟩
      unfold P_laws_toFrameS.l0
      simp only [u3_list, qLen_sl, List.length_map, bd_some, qBin_lss, qB_bool, Int.ofNat_lt, hi, decide_true, cond_true, qIA_map _ (show shFrm.length = 3 from rfl) hi, qLd_rp, Frm.get]
      simp only [Option.map_some, b2_some]
      rw [cq_sn (args' := [l[i].enc]) rfl (by simp [sns, S_laws_toFrame, sn_cl _ _ (Frm.cl _)]) (toFrame_ok l[i]) rfl, adL_frm]
      have hb : bk [cpFrm l i] 0 0 = some (cpFrm l i) := rfl
      have hg : (cpFrm l i).el[i]? = some ((pre l frm0 i)[i]'(by rw [pre_len _ _ _ (by omega)]; exact hi)).enc := by simp [cpFrm, pre_len _ _ _ (Nat.le_of_lt hi), hi]
      simp only [u1_list, c1_some, qIA_own (size := 3) hb rfl hi (show (cpFrm l i).sh.length = 3 from rfl), bd_some, Nat.zero_add]
      rw [qSt_ptr (size := 3) (cs := [.bool l[i].back, .int .i64 l[i].no, .str l[i].text]) hb hg rfl (Nat.le_refl 3) rfl]
      simp only [bd_some, qBin_add]
      rw [wrapI (n := (i : Int) + 1) (by constructor <;> omega)]
      have : ([cpFrm l i].set 0 { cpFrm l i with el := (cpFrm l i).el.set i l[i].enc }) = [cpFrm l (i + 1)] := by
        simp [cpFrm, ← pre_set l frm0 i hi, List.map_set]
      exact congrArg (rec _) this
    · intro _ rec _
      unfold P_laws_toFrameS.l0
      simp
  · have hb : bk [cpFrm l l.length] 0 0 = some (cpFrm l l.length) := rfl
    have he : ((cpFrm l l.length).el.drop 0).take l.length = l.map Frm.enc := by simp only [cpFrm, pre_last, List.drop_zero]; exact List.take_of_length_le (by simp)
    have hc : clL (l.map Frm.enc) = true := clL_map Frm.cl l
    simp only [resO, S_laws_toFrameS, onS, tk_own hb rfl rfl he hc, Option.bind_some]
    rfl
theorem cq_toFrm {N n : Nat} (hN : 4294967296 ≤ N) (l : List Frm) (hlen : l.length ≤ 1048576) (μ : PH) : cq S_laws_toFrameS (qfn P N (n + 2) n_laws_toFrameS) [.sl shFrm (l.map Frm.enc)] μ = some ([.own μ.length 0 0 l.length l.length false], μ ++ [frmB l]) := by
  rw [cq_sn (args' := [.sl shFrm (l.map Frm.enc)]) rfl (by simp only [sns, S_laws_toFrameS, sn_cl _ _ (frms_cl l), Option.bind_some]) (toFrameS_ok hN l hlen) rfl, adL_sl]
  simp only [List.length_map]; rfl
theorem eqFrame_ok {N n : Nat} (a b : Frm) : run1 S_laws_eqFrame (qfn P N (n + 1) n_laws_eqFrame) [a.enc, b.enc] = some ([.bool (decide (a = b))], []) := by
  refine run1_of (ν := []) rfl rfl rfl (r := [.bool (decide (a = b))]) ?_ (resO_sc rfl)
  rw [laws_eqFrame_eq]
  unfold P_laws_eqFrame Frm.enc
  have gb : ∀ x y : Bool, (x == y) = decide (x = y) := by decide
  by_cases h0 : a.back = b.back <;> by_cases h1 : a.no = b.no <;> by_cases h2 : a.text = b.text <;> simp [Frm.ext_iff', gb, h0, h1, h2]
theorem eqFrameS_ok {N n : Nat} (hN : 4294967296 ≤ N) (a b : List Frm) (ha : a.length ≤ 1048576) (hb : b.length ≤ 1048576) :
    run1 S_laws_eqFrameS (qfn P N (n + 2) n_laws_eqFrameS) [.sl shFrm (a.map Frm.enc), .sl shFrm (b.map Frm.enc)] = some ([.bool (decide (a = b))], []) := by
  refine run1_of (ν := []) rfl rfl rfl (r := [.bool (decide (a = b))]) ?_ (resO_sc rfl)
  rw [laws_eqFrameS_eq]
  unfold P_laws_eqFrameS
  simp
  by_cases hl : ¬ a.length = b.length
  · have : a ≠ b := fun h => hl (by rw [h])
    simp [this, show ¬ ((a.length : Int) = b.length) by omega]
  have hl := Decidable.of_not_not hl
  simp [hl]
  refine (loop_acc (σ := Unit) (len := a.length) (fun i _ => ([.sl shFrm (a.map Frm.enc), .sl shFrm (b.map Frm.enc), .int .i64 (i : Nat)] : List DV)) (fun _ _ => []) (fun _ _ => True) (fun i _ => some ([DV.bool (decide (a.drop i = b.drop i))], []))
    ?_ ?_ a.length (i := 0) (s := ()) trivial (by omega) (by omega)).trans (by simp)
  · intro i _ rec hi _
    have hi' : i < b.length := by omega
    have hx := drop_eq hi hi'
    unfold P_laws_eqFrameS.l0
    simp only [u3_list, qLen_sl, List.length_map, bd_some, qBin_lss, qB_bool, Int.ofNat_lt, hi, decide_true, cond_true, qIA_map _ (show shFrm.length = 3 from rfl) hi, qIA_map _ (show shFrm.length = 3 from rfl) hi', qLd_rp, Frm.get, Option.map_some, b2_some]
    rw [cq_sn (args' := [a[i].enc, b[i].enc]) rfl (by simp [sns, S_laws_eqFrame, sn_cl _ _ (Frm.cl _)]) (eqFrame_ok a[i] b[i]) rfl, adL_sc rfl]
    by_cases hs : a[i] = b[i]
    · refine .inl ⟨(), trivial, ?_, ?_⟩
      · simp [hx, hs]
        rw [wrapI (n := (i : Int) + 1) (by constructor <;> omega)]
      · simp [hx, hs]
    · refine .inr ?_
      simp [hx, hs]
  · intro _ rec _
    unfold P_laws_eqFrameS.l0
    simp [hl]
theorem snFrm {μ : PH} {i m : Nat} {b : PB} {s : List Sh} {l : List Frm} (hi : bk μ i 0 = some b) (hs : b.sh = shFrm) (he : b.el = l.map Frm.enc) (hm : m = l.length) : sn μ s (.own i 0 0 m m false) = some (.sl shFrm (l.map Frm.enc)) := by
  have ha : (b.el.drop 0).take m = l.map Frm.enc := by subst hm; rw [he, List.drop_zero]; exact List.take_of_length_le (by simp)
  rw [← hs]; exact sn_own hi ha (clL_map Frm.cl l)
theorem cq_eqFrm {N n : Nat} (hN : 4294967296 ≤ N) (l : List Frm) (hlen : l.length ≤ 1048576) {μ : PH} {i j : Nat} (hi : bk μ i 0 = some (frmB l)) (hj : bk μ j 0 = some (frmB l)) :
    cq S_laws_eqFrameS (qfn P N (n + 2) n_laws_eqFrameS) [.own i 0 0 l.length l.length false, .own j 0 0 l.length l.length false] μ = some ([.bool true], μ) := by
  rw [cq_sn (args' := [.sl shFrm (l.map Frm.enc), .sl shFrm (l.map Frm.enc)]) rfl (by simp only [sns, S_laws_eqFrameS, snFrm hi rfl rfl rfl, snFrm hj rfl rfl rfl, Option.bind_some]) (eqFrameS_ok (n := n) hN l l hlen hlen) rfl, adL_sc rfl]
  simp
def markFrm (k : Int) : Frm := ⟨decide ((k).tmod 3 = 0), k + 1, mark (k + 2)⟩
def marksFrm (k : Int) (n : Nat) : List Frm := (List.range n).map fun i => markFrm (k + 3 * (i : Nat))
theorem marksFrm_len (k : Int) (n : Nat) : (marksFrm k n).length = n := by simp [marksFrm]
theorem marksFrm_get (k : Int) (n i : Nat) (h : i < (marksFrm k n).length) : (marksFrm k n)[i] = markFrm (k + 3 * (i : Nat)) := by simp [marksFrm]
theorem markFrameS_ok {N n : Nat} (hN : 4294967296 ≤ N) {μ : PH} {id ver c : Nat} {x : Bool} {b : PB} {xs : List Frm} {k : Int} (hb : bk μ id ver = some b) (hel : b.el = xs.map Frm.enc) (hsh : b.sh = shFrm) (hop : b.op = false)
    (hn : xs.length ≤ 1048576) (h0 : 0 < k) (h1 : k ≤ 100000000) :
    qfn P N (n + 2) n_laws_markFrameS [.own id ver 0 xs.length c x, .int .i64 k] μ = some ([.int .i64 (k + 3 * xs.length)], μ.set id { b with el := (marksFrm k xs.length).map Frm.enc }) := by
  rw [laws_markFrameS_eq]
  unfold P_laws_markFrameS
  have hm0 : μ = μ.set id { b with el := (mix (marksFrm k xs.length) xs 0).map Frm.enc } := by
    rw [mix_zero, ← hel]; exact (bk_self hb).symm
  have hml := marksFrm_len k xs.length
  conv => lhs; rw [hm0]
  refine Eq.trans (by simp) (loop_acc (F := P_laws_markFrameS.l0 N (qfn P N (n + 1)) μ.length) (N := N) (σ := Unit) (len := xs.length) (fun i _ => ([.own id ver 0 xs.length c x, .int .i64 (k + 3 * (i : Nat)), .int .i64 (i : Nat)] : List DV)) (fun i _ => μ.set id { b with el := (mix (marksFrm k xs.length) xs i).map Frm.enc })
    (fun _ _ => True) (fun i _ => some ([DV.int .i64 (k + 3 * xs.length)], μ.set id { b with el := (marksFrm k xs.length).map Frm.enc })) ?_ ?_ xs.length (i := 0) (s := ()) trivial (by omega) (by omega))
  · intro i _ rec hi _
    refine .inl ⟨(), trivial, ?_, rfl⟩
    have hi' : i < (marksFrm k xs.length).length := by omega
    have hLl : i < ((mix (marksFrm k xs.length) xs i).map Frm.enc).length := by rw [List.length_map, mix_len hml]; exact hi
    have hL : (mix (marksFrm k xs.length) xs i).map Frm.enc = ((mix (marksFrm k xs.length) xs i).map Frm.enc).set i (.agg [.bool xs[i].back, .int .i64 xs[i].no, .str xs[i].text]) := by
      apply List.ext_getElem?
      intro j
      rw [List.getElem?_set]
      split
      · subst_vars; rw [List.getElem?_map, mix_get hml hi']; rfl
      · rfl
    unfold P_laws_markFrameS.l0
    generalize hLg : (mix (marksFrm k xs.length) xs i).map Frm.enc = L at hL hLl ⊢
    have hbk := bk_el hb L
    have hq : ∀ E : List DV, qIA (μ.set id { b with el := E }) 3 (.own id ver 0 xs.length c x) (.int .i64 (i : Nat)) = some (.ptr id ver i 0) := fun E => by
      rw [qIA_own (size := 3) (bk_el hb E) rfl hi (by show b.sh.length = 3; rw [hsh]; rfl), Nat.zero_add]
    simp only [u3_list, qLen_own hbk, bd_some, qBin_lss, qB_bool, Int.ofNat_lt, hi, decide_true, cond_true]
    rw [hL]
    simp only [qBin_rem _ _ _ (k + 3 * (i : Nat)) 3 (by decide), qBin_eql, bd_some, hq, qFA_ptr _ (bk_el hb _), Nat.zero_add]
    rw [st_at hb hop hLl (by simp) rfl rfl]
    simp only [bd_some, qBin_add, hq, qFA_ptr _ (bk_el hb _), Nat.zero_add]
    rw [wrapI (n := k + 3 * (i : Nat) + 1) (by constructor <;> omega)]
    try simp only [hq, bd_some, qFA_ptr _ (bk_el hb _), Nat.zero_add]
    rw [st_at hb hop hLl (by simp) rfl rfl]
    simp only [bd_some, qBin_add, hq, qFA_ptr _ (bk_el hb _), Nat.zero_add]
    rw [wrapI (n := k + 3 * (i : Nat) + 1 + 1) (by constructor <;> omega)]
    simp only [cq_mark hN _ (k + 3 * (i : Nat) + 1 + 1) (by omega) (by omega), c1_some, u1_list, hq, bd_some, qFA_ptr _ (bk_el hb _), Nat.zero_add]
    rw [st_at hb hop hLl (by simp) rfl rfl]
    simp only [bd_some, qBin_add, hq, qFA_ptr _ (bk_el hb _), Nat.zero_add]
    rw [wrapI (n := k + 3 * (i : Nat) + 1 + 1 + 1) (by constructor <;> omega)]
    rw [wrapI (n := (i : Int) + 1) (by constructor <;> omega)]
    rw [← mix_set hml hi', List.map_set, marksFrm_get, hLg]
    rw [show k + 3 * (i : Nat) + 1 + 1 + 1 = k + 3 * ((i + 1 : Nat) : Int) by omega, show k + 3 * (i : Nat) + 1 + 1 = k + 3 * (i : Nat) + 2 by omega]
    rfl
  · intro _ rec _
    have hbk := bk_el hb ((mix (marksFrm k xs.length) xs xs.length).map Frm.enc)
    have hlast : mix (marksFrm k xs.length) xs xs.length = marksFrm k xs.length := by
      conv => lhs; arg 3; rw [← hml]
      exact mix_last hml
    unfold P_laws_markFrameS.l0
    simp [qLen_own hbk]
    rw [hlast]
theorem heldFrameS_ok {N n : Nat} (hN : 4294967296 ≤ N) (m : Nat) (k : Int) (hn : m ≤ 1048576) (h0 : 0 < k) (h1 : k ≤ 100000000) :
    run1 S_laws_heldFrameS (qfn P N (n + 2) n_laws_heldFrameS) [.sl shFrm ((marksFrm k m).map Frm.enc), .int .i64 k] = some ([.int .i64 (k + 3 * m)], []) := by
  refine run1_of (ν := []) rfl rfl rfl (r := [.int .i64 (k + 3 * m)]) ?_ (resO_sc rfl)
  rw [laws_heldFrameS_eq]
  unfold P_laws_heldFrameS
  have hml := marksFrm_len k m
  refine Eq.trans (by simp) (loop_acc (F := P_laws_heldFrameS.l0 N (qfn P N (n + 1)) 0) (N := N) (σ := Unit) (len := m) (fun i _ => ([.sl shFrm ((marksFrm k m).map Frm.enc), .int .i64 (k + 3 * (i : Nat)), .int .i64 (i : Nat)] : List DV)) (fun _ _ => [])
    (fun _ _ => True) (fun i _ => some ([DV.int .i64 (k + 3 * m)], [])) ?_ ?_ m (i := 0) (s := ()) trivial (by omega) (by omega))
  · intro i _ rec hi _
    refine .inl ⟨(), trivial, ?_, rfl⟩
    have hi' : i < (marksFrm k m).length := by omega
    unfold P_laws_heldFrameS.l0
    have hE : (marksFrm k m)[i].enc = .agg [.bool (decide ((k + 3 * (i : Nat)).tmod 3 = 0)), .int .i64 (k + 3 * (i : Nat) + 1), .str (mark (k + 3 * (i : Nat) + 1 + 1))] := by
      rw [marksFrm_get]; unfold markFrm Frm.enc
      rw [show k + 3 * ((i : Nat) : Int) + 2 = k + 3 * (i : Nat) + 1 + 1 by omega]
    simp only [u3_list, qLen_sl, List.length_map, hml, bd_some, qBin_lss, qB_bool, Int.ofNat_lt, hi, decide_true, cond_true]
    simp only [qBin_rem _ _ _ (k + 3 * (i : Nat)) 3 (by decide), qFA_rp, qLd_rp, Nat.zero_add, cellsD_agg, getC_one, List.getElem?_cons_zero, List.getElem?_cons_succ, Option.map_some, b2_some, qBin_neq, qBin_sneq, qBin_bne, qBin_eql, ne_eq, not_true_eq_false, decide_false, cond_false, bne_self_eq_false, beq_self_eq_true, Bool.not_true, qBin_add, bd_some, qB_bool, qIA_map _ (show shFrm.length = 3 from rfl) hi', hE, stand_rp, c1_some, u1_list]
    try simp only [wrap_tm (k + 3 * (i : Nat)), qFA_rp, qLd_rp, Nat.zero_add, cellsD_agg, getC_one, List.getElem?_cons_zero, List.getElem?_cons_succ, Option.map_some, b2_some, qBin_neq, qBin_sneq, qBin_bne, qBin_eql, ne_eq, not_true_eq_false, decide_false, cond_false, bne_self_eq_false, beq_self_eq_true, Bool.not_true, qBin_add, bd_some, qB_bool, qIA_map _ (show shFrm.length = 3 from rfl) hi', hE, stand_rp, c1_some, u1_list]
    rw [wrapI (n := k + 3 * (i : Nat) + 1) (by constructor <;> omega)]
    try simp only [qFA_rp, qLd_rp, Nat.zero_add, cellsD_agg, getC_one, List.getElem?_cons_zero, List.getElem?_cons_succ, Option.map_some, b2_some, qBin_neq, qBin_sneq, qBin_bne, qBin_eql, ne_eq, not_true_eq_false, decide_false, cond_false, bne_self_eq_false, beq_self_eq_true, Bool.not_true, qBin_add, bd_some, qB_bool, qIA_map _ (show shFrm.length = 3 from rfl) hi', hE, stand_rp, c1_some, u1_list]
    rw [wrapI (n := k + 3 * (i : Nat) + 1 + 1) (by constructor <;> omega)]
    simp only [cq_mark hN _ (k + 3 * (i : Nat) + 1 + 1) (by omega) (by omega), qFA_rp, qLd_rp, Nat.zero_add, cellsD_agg, getC_one, List.getElem?_cons_zero, List.getElem?_cons_succ, Option.map_some, b2_some, qBin_neq, qBin_sneq, qBin_bne, qBin_eql, ne_eq, not_true_eq_false, decide_false, cond_false, bne_self_eq_false, beq_self_eq_true, Bool.not_true, qBin_add, bd_some, qB_bool, qIA_map _ (show shFrm.length = 3 from rfl) hi', hE, stand_rp, c1_some, u1_list]
    rw [wrapI (n := k + 3 * (i : Nat) + 1 + 1 + 1) (by constructor <;> omega)]
    try simp only [qFA_rp, qLd_rp, Nat.zero_add, cellsD_agg, getC_one, List.getElem?_cons_zero, List.getElem?_cons_succ, Option.map_some, b2_some, qBin_neq, qBin_sneq, qBin_bne, qBin_eql, ne_eq, not_true_eq_false, decide_false, cond_false, bne_self_eq_false, beq_self_eq_true, Bool.not_true, qBin_add, bd_some, qB_bool, qIA_map _ (show shFrm.length = 3 from rfl) hi', hE, stand_rp, c1_some, u1_list]
    rw [wrapI (n := (i : Int) + 1) (by constructor <;> omega)]
    rw [show k + 3 * (i : Nat) + 1 + 1 + 1 = k + 3 * ((i + 1 : Nat) : Int) by omega]
    rfl
  · intro _ rec _
    unfold P_laws_heldFrameS.l0
    simp [hml]
theorem cq_heldFrm {N n : Nat} (hN : 4294967296 ≤ N) (m : Nat) (k : Int) (hn : m ≤ 1048576) (h0 : 0 < k) (h1 : k ≤ 100000000) {μ : PH} {args : List DV} (hs : sns μ S_laws_heldFrameS.ps args = some [.sl shFrm ((marksFrm k m).map Frm.enc), .int .i64 k]) :
    cq S_laws_heldFrameS (qfn P N (n + 2) n_laws_heldFrameS) args μ = some ([.int .i64 (k + 3 * m)], μ) := by
  rw [cq_sn rfl hs (heldFrameS_ok hN m k hn h0 h1) rfl, adL_sc rfl]
end Go.Lg.Pv.Q
namespace Go.Lg.Pv.Q
open Go Go.Lg Go.Lg.Pv
set_option linter.unusedVariables false
set_option linter.unusedSimpArgs false
set_option maxRecDepth 100000

structure WStep where
  kind : Int
  k : Int
def WStep.enc (r : WStep) : DV := .agg [.int .i64 r.kind, .int .i64 r.k]
abbrev shWStep : List Sh := [.sc, .sc]
def WStep.ok (r : WStep) : Prop := inI r.kind ∧ inI r.k
theorem WStep.get (r : WStep) : getC (cellsD r.enc) 0 2 true = some r.enc := rfl
theorem WStep.cl (r : WStep) : cl r.enc = true := rfl
theorem wSteps_cl (l : List WStep) : Pv.cl (.sl shWStep (l.map WStep.enc)) = true := by simp only [Pv.cl]; exact clL_map WStep.cl l
theorem WStep.ext_iff' (a b : WStep) : (a = b) ↔ a.kind = b.kind ∧ a.k = b.k := by cases a; cases b; simp
instance : DecidableEq WStep := fun a b => decidable_of_iff _ (WStep.ext_iff' a b).symm
def wStep0 : WStep := ⟨0, 0⟩
/-- the block of a slice -/
def wStepB (l : List WStep) : PB := ⟨0, shWStep, l.map WStep.enc, true, false, true⟩
def szWStepS (l : List WStep) (left : Int) : Int := if left - l.length < 0 then -1 else left - l.length
theorem szWStepS_le {l : List WStep} {left : Int} (h : ¬ szWStepS l left < 0) : (l.length : Int) ≤ left := by
  unfold szWStepS at h; split at h <;> rename_i h'
  · exact absurd (by decide) h
  · omega
theorem szWStepS_bd {l : List WStep} {left : Int} (h : ¬ szWStepS l left < 0) : (l.length : Int) ≤ left ∧ szWStepS l left ≤ left := by
  refine ⟨szWStepS_le h, ?_⟩
  unfold szWStepS at h ⊢; split at h <;> rename_i h'
  · exact absurd (by decide) h
  · rw [if_neg h']; omega
theorem szWinStepS_ok {N n : Nat} (hN : 4294967296 ≤ N) (l : List WStep) (left : Int) (h0 : 0 ≤ left) (h1 : left ≤ 1048576) (hl : ∀ r ∈ l, r.ok) (hlen : (l.length : Int) ≤ 9223372036854775807) :
    run1 S_laws_szWinStepS (qfn P N (n + 1) n_laws_szWinStepS) [.sl shWStep (l.map WStep.enc), .int .i64 left] = some ([.int .i64 (szWStepS l left)], []) := by
  unfold szWStepS
  refine run1_of (ν := []) rfl rfl rfl (r := [.int .i64 (if left - l.length < 0 then -1 else left - l.length)]) ?_ (resO_sc rfl)
  rw [laws_szWinStepS_eq]
  unfold P_laws_szWinStepS
  simp
  rw [wrapI (n := left - (l.length : Nat)) (by constructor <;> omega)]
  split <;> rfl
theorem toWinStep_ok {N n : Nat} (r : WStep) : run1 S_laws_toWinStep (qfn P N (n + 1) n_laws_toWinStep) [r.enc] = some ([r.enc], []) := by
  refine run1_of (ν := []) rfl rfl rfl (r := [r.enc]) ?_ (resO_agg rfl)
  rw [laws_toWinStep_eq]
  unfold P_laws_toWinStep WStep.enc
  simp
def cpWStep (l : List WStep) (i : Nat) : PB := ⟨0, shWStep, (pre l wStep0 i).map WStep.enc, true, false, true⟩
theorem adL_wStep (μ : PH) (r : WStep) : adL true μ [r.enc] = ([r.enc], μ) := adL_agg rfl
theorem toWinStepS_ok {N n : Nat} (hN : 4294967296 ≤ N) (l : List WStep) (hlen : l.length ≤ 1048576) :
    run1 S_laws_toWinStepS (qfn P N (n + 2) n_laws_toWinStepS) [.sl shWStep (l.map WStep.enc)] = some ([.sl shWStep (l.map WStep.enc)], []) := by
  refine run1_of (ν := [cpWStep l l.length]) (ν' := kl [cpWStep l l.length] 0) rfl rfl rfl (r := [.own 0 0 0 l.length l.length true]) ?_ ?_
  · rw [laws_toWinStepS_eq]
    unfold P_laws_toWinStepS
    have h1 : (l.length : Int) * 16 ≤ 140737488355328 := by omega
    have h2 : (l.length : Int) ≤ 9223372036854775807 := by omega
    have hms : qMS [] [.sc, .sc] true [.int .i64 0, .int .i64 0] 2 16 (.int .i64 l.length) (.int .i64 l.length) = some (.own 0 0 0 l.length l.length true, [cpWStep l 0]) := by
      simp [qMS, h1, h2, cpWStep, pre_zero, okC, isSc]
      exact .inr rfl
    simp only [qLen_sl, bd_some, List.length_map, hms, b2_some]
    refine (loop_acc (σ := Unit) (len := l.length) (fun i _ => ([.sl shWStep (l.map WStep.enc), .own 0 0 0 l.length l.length true, .int .i64 (i : Nat)] : List DV)) (fun i _ => [cpWStep l i]) (fun _ _ => True) (fun i _ => some ([DV.own 0 0 0 l.length l.length true], [cpWStep l l.length]))
      ?_ ?_ l.length (i := 0) (s := ()) trivial (by omega) (by omega))
    · intro i _ rec hi _
      refine .inl ⟨(), trivial, ?_, rfl⟩
      unfold P_laws_toWinStepS.l0
      simp only [u3_list, qLen_sl, List.length_map, bd_some, qBin_lss, qB_bool, Int.ofNat_lt, hi, decide_true, cond_true, qIA_map _ (show shWStep.length = 2 from rfl) hi, qLd_rp, WStep.get]
      simp only [Option.map_some, b2_some]
      rw [cq_sn (args' := [l[i].enc]) rfl (by simp [sns, S_laws_toWinStep, sn_cl _ _ (WStep.cl _)]) (toWinStep_ok l[i]) rfl, adL_wStep]
      have hb : bk [cpWStep l i] 0 0 = some (cpWStep l i) := rfl
      have hg : (cpWStep l i).el[i]? = some ((pre l wStep0 i)[i]'(by rw [pre_len _ _ _ (by omega)]; exact hi)).enc := by simp [cpWStep, pre_len _ _ _ (Nat.le_of_lt hi), hi]
      simp only [u1_list, c1_some, qIA_own (size := 2) hb rfl hi (show (cpWStep l i).sh.length = 2 from rfl), bd_some, Nat.zero_add]
      rw [qSt_ptr (size := 2) (cs := [.int .i64 l[i].kind, .int .i64 l[i].k]) hb hg rfl (Nat.le_refl 2) rfl]
      simp only [bd_some, qBin_add]
      rw [wrapI (n := (i : Int) + 1) (by constructor <;> omega)]
      have : ([cpWStep l i].set 0 { cpWStep l i with el := (cpWStep l i).el.set i l[i].enc }) = [cpWStep l (i + 1)] := by
        simp [cpWStep, ← pre_set l wStep0 i hi, List.map_set]
      exact congrArg (rec _) this
    · intro _ rec _
      unfold P_laws_toWinStepS.l0
      simp
  · have hb : bk [cpWStep l l.length] 0 0 = some (cpWStep l l.length) := rfl
    have he : ((cpWStep l l.length).el.drop 0).take l.length = l.map WStep.enc := by simp only [cpWStep, pre_last, List.drop_zero]; exact List.take_of_length_le (by simp)
    have hc : clL (l.map WStep.enc) = true := clL_map WStep.cl l
    simp only [resO, S_laws_toWinStepS, onS, tk_own hb rfl rfl he hc, Option.bind_some]
    rfl
theorem cq_toWStep {N n : Nat} (hN : 4294967296 ≤ N) (l : List WStep) (hlen : l.length ≤ 1048576) (μ : PH) : cq S_laws_toWinStepS (qfn P N (n + 2) n_laws_toWinStepS) [.sl shWStep (l.map WStep.enc)] μ = some ([.own μ.length 0 0 l.length l.length false], μ ++ [wStepB l]) := by
  rw [cq_sn (args' := [.sl shWStep (l.map WStep.enc)]) rfl (by simp only [sns, S_laws_toWinStepS, sn_cl _ _ (wSteps_cl l), Option.bind_some]) (toWinStepS_ok hN l hlen) rfl, adL_sl]
  simp only [List.length_map]; rfl
theorem eqWinStep_ok {N n : Nat} (a b : WStep) : run1 S_laws_eqWinStep (qfn P N (n + 1) n_laws_eqWinStep) [a.enc, b.enc] = some ([.bool (decide (a = b))], []) := by
  refine run1_of (ν := []) rfl rfl rfl (r := [.bool (decide (a = b))]) ?_ (resO_sc rfl)
  rw [laws_eqWinStep_eq]
  unfold P_laws_eqWinStep WStep.enc
  by_cases h0 : a.kind = b.kind <;> by_cases h1 : a.k = b.k <;> simp [WStep.ext_iff', h0, h1]
theorem eqWinStepS_ok {N n : Nat} (hN : 4294967296 ≤ N) (a b : List WStep) (ha : a.length ≤ 1048576) (hb : b.length ≤ 1048576) :
    run1 S_laws_eqWinStepS (qfn P N (n + 2) n_laws_eqWinStepS) [.sl shWStep (a.map WStep.enc), .sl shWStep (b.map WStep.enc)] = some ([.bool (decide (a = b))], []) := by
  refine run1_of (ν := []) rfl rfl rfl (r := [.bool (decide (a = b))]) ?_ (resO_sc rfl)
  rw [laws_eqWinStepS_eq]
  unfold P_laws_eqWinStepS
  simp
  by_cases hl : ¬ a.length = b.length
  · have : a ≠ b := fun h => hl (by rw [h])
    simp [this, show ¬ ((a.length : Int) = b.length) by omega]
  have hl := Decidable.of_not_not hl
  simp [hl]
  refine (loop_acc (σ := Unit) (len := a.length) (fun i _ => ([.sl shWStep (a.map WStep.enc), .sl shWStep (b.map WStep.enc), .int .i64 (i : Nat)] : List DV)) (fun _ _ => []) (fun _ _ => True) (fun i _ => some ([DV.bool (decide (a.drop i = b.drop i))], []))
    ?_ ?_ a.length (i := 0) (s := ()) trivial (by omega) (by omega)).trans (by simp)
  · intro i _ rec hi _
    have hi' : i < b.length := by omega
    have hx := drop_eq hi hi'
    unfold P_laws_eqWinStepS.l0
    simp only [u3_list, qLen_sl, List.length_map, bd_some, qBin_lss, qB_bool, Int.ofNat_lt, hi, decide_true, cond_true, qIA_map _ (show shWStep.length = 2 from rfl) hi, qIA_map _ (show shWStep.length = 2 from rfl) hi', qLd_rp, WStep.get, Option.map_some, b2_some]
    rw [cq_sn (args' := [a[i].enc, b[i].enc]) rfl (by simp [sns, S_laws_eqWinStep, sn_cl _ _ (WStep.cl _)]) (eqWinStep_ok a[i] b[i]) rfl, adL_sc rfl]
    by_cases hs : a[i] = b[i]
    · refine .inl ⟨(), trivial, ?_, ?_⟩
      · simp [hx, hs]
        rw [wrapI (n := (i : Int) + 1) (by constructor <;> omega)]
      · simp [hx, hs]
    · refine .inr ?_
      simp [hx, hs]
  · intro _ rec _
    unfold P_laws_eqWinStepS.l0
    simp [hl]
theorem snWStep {μ : PH} {i m : Nat} {b : PB} {s : List Sh} {l : List WStep} (hi : bk μ i 0 = some b) (hs : b.sh = shWStep) (he : b.el = l.map WStep.enc) (hm : m = l.length) : sn μ s (.own i 0 0 m m false) = some (.sl shWStep (l.map WStep.enc)) := by
  have ha : (b.el.drop 0).take m = l.map WStep.enc := by subst hm; rw [he, List.drop_zero]; exact List.take_of_length_le (by simp)
  rw [← hs]; exact sn_own hi ha (clL_map WStep.cl l)
theorem cq_eqWStep {N n : Nat} (hN : 4294967296 ≤ N) (l : List WStep) (hlen : l.length ≤ 1048576) {μ : PH} {i j : Nat} (hi : bk μ i 0 = some (wStepB l)) (hj : bk μ j 0 = some (wStepB l)) :
    cq S_laws_eqWinStepS (qfn P N (n + 2) n_laws_eqWinStepS) [.own i 0 0 l.length l.length false, .own j 0 0 l.length l.length false] μ = some ([.bool true], μ) := by
  rw [cq_sn (args' := [.sl shWStep (l.map WStep.enc), .sl shWStep (l.map WStep.enc)]) rfl (by simp only [sns, S_laws_eqWinStepS, snWStep hi rfl rfl rfl, snWStep hj rfl rfl rfl, Option.bind_some]) (eqWinStepS_ok (n := n) hN l l hlen hlen) rfl, adL_sc rfl]
  simp
def markWStep (k : Int) : WStep := ⟨k, k + 1⟩
def marksWStep (k : Int) (n : Nat) : List WStep := (List.range n).map fun i => markWStep (k + 2 * (i : Nat))
theorem marksWStep_len (k : Int) (n : Nat) : (marksWStep k n).length = n := by simp [marksWStep]
theorem marksWStep_get (k : Int) (n i : Nat) (h : i < (marksWStep k n).length) : (marksWStep k n)[i] = markWStep (k + 2 * (i : Nat)) := by simp [marksWStep]
theorem markWinStepS_ok {N n : Nat} (hN : 4294967296 ≤ N) {μ : PH} {id ver c : Nat} {x : Bool} {b : PB} {xs : List WStep} {k : Int} (hb : bk μ id ver = some b) (hel : b.el = xs.map WStep.enc) (hsh : b.sh = shWStep) (hop : b.op = false)
    (hn : xs.length ≤ 1048576) (h0 : 0 < k) (h1 : k ≤ 100000000) :
    qfn P N (n + 2) n_laws_markWinStepS [.own id ver 0 xs.length c x, .int .i64 k] μ = some ([.int .i64 (k + 2 * xs.length)], μ.set id { b with el := (marksWStep k xs.length).map WStep.enc }) := by
  rw [laws_markWinStepS_eq]
  unfold P_laws_markWinStepS
  have hm0 : μ = μ.set id { b with el := (mix (marksWStep k xs.length) xs 0).map WStep.enc } := by
    rw [mix_zero, ← hel]; exact (bk_self hb).symm
  have hml := marksWStep_len k xs.length
  conv => lhs; rw [hm0]
  refine Eq.trans (by simp) (loop_acc (F := P_laws_markWinStepS.l0 N (qfn P N (n + 1)) μ.length) (N := N) (σ := Unit) (len := xs.length) (fun i _ => ([.own id ver 0 xs.length c x, .int .i64 (k + 2 * (i : Nat)), .int .i64 (i : Nat)] : List DV)) (fun i _ => μ.set id { b with el := (mix (marksWStep k xs.length) xs i).map WStep.enc })
    (fun _ _ => True) (fun i _ => some ([DV.int .i64 (k + 2 * xs.length)], μ.set id { b with el := (marksWStep k xs.length).map WStep.enc })) ?_ ?_ xs.length (i := 0) (s := ()) trivial (by omega) (by omega))
  · intro i _ rec hi _
    refine .inl ⟨(), trivial, ?_, rfl⟩
    have hi' : i < (marksWStep k xs.length).length := by omega
    have hLl : i < ((mix (marksWStep k xs.length) xs i).map WStep.enc).length := by rw [List.length_map, mix_len hml]; exact hi
    have hL : (mix (marksWStep k xs.length) xs i).map WStep.enc = ((mix (marksWStep k xs.length) xs i).map WStep.enc).set i (.agg [.int .i64 xs[i].kind, .int .i64 xs[i].k]) := by
      apply List.ext_getElem?
      intro j
      rw [List.getElem?_set]
      split
      · subst_vars; rw [List.getElem?_map, mix_get hml hi']; rfl
      · rfl
    unfold P_laws_markWinStepS.l0
    generalize hLg : (mix (marksWStep k xs.length) xs i).map WStep.enc = L at hL hLl ⊢
    have hbk := bk_el hb L
    have hq : ∀ E : List DV, qIA (μ.set id { b with el := E }) 2 (.own id ver 0 xs.length c x) (.int .i64 (i : Nat)) = some (.ptr id ver i 0) := fun E => by
      rw [qIA_own (size := 2) (bk_el hb E) rfl hi (by show b.sh.length = 2; rw [hsh]; rfl), Nat.zero_add]
    simp only [u3_list, qLen_own hbk, bd_some, qBin_lss, qB_bool, Int.ofNat_lt, hi, decide_true, cond_true]
    rw [hL]
    try simp only [hq, bd_some, qFA_ptr _ (bk_el hb _), Nat.zero_add]
    rw [st_at hb hop hLl (by simp) rfl rfl]
    simp only [bd_some, qBin_add, hq, qFA_ptr _ (bk_el hb _), Nat.zero_add]
    rw [wrapI (n := k + 2 * (i : Nat) + 1) (by constructor <;> omega)]
    try simp only [hq, bd_some, qFA_ptr _ (bk_el hb _), Nat.zero_add]
    rw [st_at hb hop hLl (by simp) rfl rfl]
    simp only [bd_some, qBin_add, hq, qFA_ptr _ (bk_el hb _), Nat.zero_add]
    rw [wrapI (n := k + 2 * (i : Nat) + 1 + 1) (by constructor <;> omega)]
    rw [wrapI (n := (i : Int) + 1) (by constructor <;> omega)]
    rw [← mix_set hml hi', List.map_set, marksWStep_get, hLg]
    rw [show k + 2 * (i : Nat) + 1 + 1 = k + 2 * ((i + 1 : Nat) : Int) by omega]
    rfl
  · intro _ rec _
    have hbk := bk_el hb ((mix (marksWStep k xs.length) xs xs.length).map WStep.enc)
    have hlast : mix (marksWStep k xs.length) xs xs.length = marksWStep k xs.length := by
      conv => lhs; arg 3; rw [← hml]
      exact mix_last hml
    unfold P_laws_markWinStepS.l0
    simp [qLen_own hbk]
    rw [hlast]
end Go.Lg.Pv.Q
namespace Go.Lg.Pv.Q
open Go Go.Lg Go.Lg.Pv
set_option linter.unusedVariables false
set_option linter.unusedSimpArgs false
set_option maxRecDepth 100000
abbrev eBool : Bool → DV := fun x => DV.bool x
theorem eBool_cl (l : List Bool) : clL (l.map eBool) = true := clL_map (fun _ => rfl) l
theorem bools_cl (l : List Bool) : cl (.sl [.sc] (l.map eBool)) = true := by simp only [Pv.cl]; exact eBool_cl l
def boolB (l : List Bool) : PB := ⟨0, [.sc], l.map eBool, true, false, true⟩
theorem snBool {μ : PH} {i m : Nat} {b : PB} {s : List Sh} {l : List Bool} (hi : bk μ i 0 = some b) (hs : b.sh = [.sc]) (he : b.el = l.map eBool) (hm : m = l.length) : sn μ s (.own i 0 0 m m false) = some (.sl [.sc] (l.map eBool)) := by
  have ha : (b.el.drop 0).take m = l.map eBool := by subst hm; rw [he, List.drop_zero]; exact List.take_of_length_le (by simp)
  rw [← hs]; exact sn_own hi ha (eBool_cl l)
theorem cells_eBool (x : Bool) : cellsD (eBool x) = [eBool x] := rfl
def szBoolS (l : List Bool) (left : Int) : Int := if left - l.length < 0 then -1 else left - l.length
theorem szBoolS_le {l : List Bool} {left : Int} (h : ¬ szBoolS l left < 0) : (l.length : Int) ≤ left ∧ 0 ≤ szBoolS l left ∧ szBoolS l left ≤ left := by
  unfold szBoolS at h ⊢; split at h <;> rename_i h'
  · exact absurd (by decide) h
  · rw [if_neg h']; omega
theorem szBoolS_bd {l : List Bool} {left : Int} (h : ¬ szBoolS l left < 0) : (l.length : Int) ≤ left ∧ szBoolS l left ≤ left := ⟨(szBoolS_le h).1, (szBoolS_le h).2.2⟩
theorem szBoolS_ok {N n : Nat} (l : List Bool) (left : Int) (h0 : 0 ≤ left) (h1 : left ≤ 1048576) (hlen : (l.length : Int) ≤ 9223372036854775807) :
    run1 S_laws_szBoolS (qfn P N (n + 1) n_laws_szBoolS) [.sl [.sc] (l.map eBool), .int .i64 left] = some ([.int .i64 (szBoolS l left)], []) := by
  refine run1_of (ν := []) rfl rfl rfl (r := [.int .i64 (szBoolS l left)]) ?_ (resO_sc rfl)
  rw [laws_szBoolS_eq]
  unfold P_laws_szBoolS szBoolS
  simp
  rw [wrapI (n := left - (l.length : Nat)) (by constructor <;> omega)]
  split <;> rfl
def cpBool (l : List Bool) (i : Nat) : PB := ⟨0, [.sc], (pre l false i).map eBool, true, false, true⟩
theorem toBoolS_ok {N n : Nat} (hN : 4294967296 ≤ N) (l : List Bool) (hlen : l.length ≤ 1048576) :
    run1 S_laws_toBoolS (qfn P N (n + 1) n_laws_toBoolS) [.sl [.sc] (l.map eBool)] = some ([.sl [.sc] (l.map eBool)], []) := by
  refine run1_of (ν := [cpBool l l.length]) (ν' := kl [cpBool l l.length] 0) rfl rfl rfl (r := [.own 0 0 0 l.length l.length true]) ?_ ?_
  · rw [laws_toBoolS_eq]
    unfold P_laws_toBoolS
    have h1 : (l.length : Int) * 1 ≤ 140737488355328 := by omega
    have h2 : (l.length : Int) ≤ 9223372036854775807 := by omega
    have hms : qMS [] [.sc] false [.bool false] 1 1 (.int .i64 l.length) (.int .i64 l.length) = some (.own 0 0 0 l.length l.length true, [cpBool l 0]) := by
      simp [qMS, h1, h2, cpBool, pre_zero, okC, isSc]
      first | exact .inr rfl | exact ⟨by omega, .inr rfl⟩ | (refine ⟨by omega, ?_⟩; rfl)
    simp only [qLen_sl, bd_some, List.length_map, hms, b2_some]
    refine (loop_acc (σ := Unit) (len := l.length) (fun i _ => ([.sl [.sc] (l.map eBool), .own 0 0 0 l.length l.length true, .int .i64 (i : Nat)] : List DV)) (fun i _ => [cpBool l i]) (fun _ _ => True) (fun i _ => some ([DV.own 0 0 0 l.length l.length true], [cpBool l l.length]))
      ?_ ?_ l.length (i := 0) (s := ()) trivial (by omega) (by omega))
    · intro i _ rec hi _
      refine .inl ⟨(), trivial, ?_, rfl⟩
      unfold P_laws_toBoolS.l0
      simp only [u3_list, qLen_sl, List.length_map, bd_some, qBin_lss, qB_bool, Int.ofNat_lt, hi, decide_true, cond_true, qIA_map _ (show [Sh.sc].length = 1 from rfl) hi, qLd_rp, cells_eBool, getC_one, List.getElem?_cons_zero, Option.map_some, b2_some]
      have hb : bk [cpBool l i] 0 0 = some (cpBool l i) := rfl
      have hg : (cpBool l i).el[i]? = some (eBool ((pre l false i)[i]'(by rw [pre_len _ _ _ (by omega)]; exact hi))) := by simp [cpBool, pre_len _ _ _ (Nat.le_of_lt hi), hi]
      simp only [qIA_own (size := 1) hb rfl hi (show (cpBool l i).sh.length = 1 from rfl), bd_some, Nat.zero_add]
      rw [qSt_ptr (size := 1) (cs := [eBool l[i]]) hb hg rfl (Nat.le_refl 1) rfl]
      simp only [bd_some, qBin_add]
      rw [wrapI (n := (i : Int) + 1) (by constructor <;> omega)]
      have : ([cpBool l i].set 0 { cpBool l i with el := (cpBool l i).el.set i (eBool l[i]) }) = [cpBool l (i + 1)] := by
        simp [cpBool, ← pre_set l false i hi, List.map_set]
      exact congrArg (rec _) this
    · intro _ rec _
      unfold P_laws_toBoolS.l0
      simp
  · have hb : bk [cpBool l l.length] 0 0 = some (cpBool l l.length) := rfl
    have he : ((cpBool l l.length).el.drop 0).take l.length = l.map eBool := by simp only [cpBool, pre_last, List.drop_zero]; exact List.take_of_length_le (by simp)
    simp only [resO, S_laws_toBoolS, onS, tk_own hb rfl rfl he (eBool_cl l), Option.bind_some]
    rfl
theorem cq_toBool {N n : Nat} (hN : 4294967296 ≤ N) (l : List Bool) (hlen : l.length ≤ 1048576) (μ : PH) : cq S_laws_toBoolS (qfn P N (n + 1) n_laws_toBoolS) [.sl [.sc] (l.map eBool)] μ = some ([.own μ.length 0 0 l.length l.length false], μ ++ [boolB l]) := by
  rw [cq_sn (args' := [.sl [.sc] (l.map eBool)]) rfl (by simp only [sns, S_laws_toBoolS, sn_cl _ _ (bools_cl l), Option.bind_some]) (toBoolS_ok hN l hlen) rfl, adL_sl]
  simp only [List.length_map]; rfl
theorem eqBoolS_ok {N n : Nat} (hN : 4294967296 ≤ N) (a b : List Bool) (ha : a.length ≤ 1048576) (hb : b.length ≤ 1048576) :
    run1 S_laws_eqBoolS (qfn P N (n + 1) n_laws_eqBoolS) [.sl [.sc] (a.map eBool), .sl [.sc] (b.map eBool)] = some ([.bool (decide (a = b))], []) := by
  refine run1_of (ν := []) rfl rfl rfl (r := [.bool (decide (a = b))]) ?_ (resO_sc rfl)
  rw [laws_eqBoolS_eq]
  unfold P_laws_eqBoolS
  simp
  by_cases hl : ¬ a.length = b.length
  · have : a ≠ b := fun h => hl (by rw [h])
    simp [this, show ¬ ((a.length : Int) = b.length) by omega]
  have hl := Decidable.of_not_not hl
  simp [hl]
  refine (loop_acc (σ := Unit) (len := a.length) (fun i _ => ([.sl [.sc] (a.map eBool), .sl [.sc] (b.map eBool), .int .i64 (i : Nat)] : List DV)) (fun _ _ => []) (fun _ _ => True) (fun i _ => some ([DV.bool (decide (a.drop i = b.drop i))], []))
    ?_ ?_ a.length (i := 0) (s := ()) trivial (by omega) (by omega)).trans (by simp)
  · intro i _ rec hi _
    have hi' : i < b.length := by omega
    have hx := drop_eq hi hi'
    unfold P_laws_eqBoolS.l0
    simp only [u3_list, qLen_sl, List.length_map, bd_some, qBin_lss, qB_bool, Int.ofNat_lt, hi, decide_true, cond_true, qIA_map _ (show [Sh.sc].length = 1 from rfl) hi, qIA_map _ (show [Sh.sc].length = 1 from rfl) hi', qLd_rp, cells_eBool, getC_one, List.getElem?_cons_zero, Option.map_some, b2_some, qBin_bne]
    by_cases hs : a[i] = b[i]
    · refine .inl ⟨(), trivial, ?_, ?_⟩
      · simp [hs]
        rw [wrapI (n := (i : Int) + 1) (by constructor <;> omega)]
      · simp [hx, hs]
    · refine .inr ?_
      simp [hx, hs, beq_eq_false_iff_ne.2 hs]
  · intro _ rec _
    unfold P_laws_eqBoolS.l0
    simp [hl]
theorem cq_eqBool {N n : Nat} (hN : 4294967296 ≤ N) (l : List Bool) (hlen : l.length ≤ 1048576) {μ : PH} {i j : Nat} (hi : bk μ i 0 = some (boolB l)) (hj : bk μ j 0 = some (boolB l)) :
    cq S_laws_eqBoolS (qfn P N (n + 1) n_laws_eqBoolS) [.own i 0 0 l.length l.length false, .own j 0 0 l.length l.length false] μ = some ([.bool true], μ) := by
  rw [cq_sn (args' := [.sl [.sc] (l.map eBool), .sl [.sc] (l.map eBool)]) rfl (by simp only [sns, S_laws_eqBoolS, snBool hi rfl rfl rfl, snBool hj rfl rfl rfl, Option.bind_some]) (eqBoolS_ok (n := n) hN l l hlen hlen) rfl, adL_sc rfl]
  simp
def marksBool (k : Int) (n : Nat) : List Bool := (List.range n).map fun i => decide ((k + (i : Nat)).tmod 3 = 0)
theorem marksBool_len (k : Int) (n : Nat) : (marksBool k n).length = n := by simp [marksBool]
theorem marksBool_get (k : Int) (n i : Nat) (h : i < (marksBool k n).length) : (marksBool k n)[i] = (decide ((k + (i : Nat)).tmod 3 = 0)) := by simp [marksBool]
theorem markBoolS_ok {N n : Nat} (hN : 4294967296 ≤ N) {μ : PH} {id ver c : Nat} {x : Bool} {b : PB} {xs : List Bool} {k : Int} (hb : bk μ id ver = some b) (hel : b.el = xs.map eBool) (hsh : b.sh = [.sc]) (hop : b.op = false)
    (hn : xs.length ≤ 1048576) (h0 : 0 < k) (h1 : k ≤ 100000000) :
    qfn P N (n + 1) n_laws_markBoolS [.own id ver 0 xs.length c x, .int .i64 k] μ = some ([.int .i64 (k + xs.length)], μ.set id { b with el := (marksBool k xs.length).map eBool }) := by
  have hid : id < μ.length := bk_lt hb
  have hlv := (bk_some hb).2
  rw [laws_markBoolS_eq]
  unfold P_laws_markBoolS
  have hm0 : μ = μ.set id { b with el := (mix (marksBool k xs.length) xs 0).map eBool } := by
    rw [mix_zero, ← hel]; exact (bk_self hb).symm
  have hml := marksBool_len k xs.length
  conv => lhs; rw [hm0]
  refine Eq.trans (by simp) (loop_acc (F := P_laws_markBoolS.l0 N (qfn P N n) μ.length) (N := N) (σ := Unit) (len := xs.length) (fun i _ => ([.own id ver 0 xs.length c x, .int .i64 (k + (i : Nat)), .int .i64 (i : Nat)] : List DV)) (fun i _ => μ.set id { b with el := (mix (marksBool k xs.length) xs i).map eBool })
    (fun _ _ => True) (fun i _ => some ([DV.int .i64 (k + xs.length)], μ.set id { b with el := (marksBool k xs.length).map eBool })) ?_ ?_ xs.length (i := 0) (s := ()) trivial (by omega) (by omega))
  · intro i _ rec hi _
    refine .inl ⟨(), trivial, ?_, rfl⟩
    have hbk : bk (μ.set id { b with el := (mix (marksBool k xs.length) xs i).map eBool }) id ver = some { b with el := (mix (marksBool k xs.length) xs i).map eBool } := by
      have := bk_set (μ := μ) (b := { b with el := (mix (marksBool k xs.length) xs i).map eBool }) hid hlv.1
      rw [← hlv.2]; exact this
    unfold P_laws_markBoolS.l0
    simp only [u3_list, qLen_own hbk, bd_some, qBin_lss, qB_bool, Int.ofNat_lt, hi, decide_true, cond_true, qBin_rem _ _ _ (k + (i : Nat)) 3 (by decide), qBin_eql, u1_list]
    have hi' : i < (marksBool k xs.length).length := by omega
    simp only [qIA_own (size := 1) hbk rfl hi (by rw [hsh]; rfl), bd_some, Nat.zero_add]
    rw [qSt_ptr (size := 1) (cs := [eBool (decide ((k + (i : Nat)).tmod 3 = 0))]) hbk (e := eBool xs[i]) (by rw [List.getElem?_map, mix_get hml hi']; rfl) rfl (Nat.le_refl 1) (by rw [hop, hsh]; rfl)]
    simp only [bd_some, qBin_add]
    rw [wrapI (n := (i : Int) + 1) (by constructor <;> omega), wrapI (n := k + (i : Nat) + 1) (by constructor <;> omega)]
    have h2 : mkE (eBool xs[i]) (overD (cellsD (eBool xs[i])) 0 [eBool (decide ((k + (i : Nat)).tmod 3 = 0))]) = eBool (decide ((k + (i : Nat)).tmod 3 = 0)) := rfl
    have h3 : ((mix (marksBool k xs.length) xs i).map eBool).set i (eBool (decide ((k + (i : Nat)).tmod 3 = 0))) = (mix (marksBool k xs.length) xs (i + 1)).map eBool := by
      rw [← mix_set hml hi', marksBool_get, List.map_set]
    simp only [h2, h3, List.set_set]
    rw [show k + (i : Nat) + 1 = k + ((i + 1 : Nat) : Int) by omega]
    rfl
  · intro _ rec _
    have hbk : bk (μ.set id { b with el := (mix (marksBool k xs.length) xs xs.length).map eBool }) id ver = some { b with el := (mix (marksBool k xs.length) xs xs.length).map eBool } := by
      have := bk_set (μ := μ) (b := { b with el := (mix (marksBool k xs.length) xs xs.length).map eBool }) hid hlv.1
      rw [← hlv.2]; exact this
    unfold P_laws_markBoolS.l0
    have hlast : mix (marksBool k xs.length) xs xs.length = marksBool k xs.length := by
      conv => lhs; arg 3; rw [← hml]
      exact mix_last hml
    simp [qLen_own hbk]
    rw [hlast]
theorem heldBoolS_ok {N n : Nat} (hN : 4294967296 ≤ N) (m : Nat) (k : Int) (hn : m ≤ 1048576) (h0 : 0 < k) (h1 : k ≤ 100000000) :
    run1 S_laws_heldBoolS (qfn P N (n + 1) n_laws_heldBoolS) [.sl [.sc] ((marksBool k m).map eBool), .int .i64 k] = some ([.int .i64 (k + m)], []) := by
  refine run1_of (ν := []) rfl rfl rfl (r := [.int .i64 (k + m)]) ?_ (resO_sc rfl)
  rw [laws_heldBoolS_eq]
  unfold P_laws_heldBoolS
  have hml := marksBool_len k m
  refine Eq.trans (by simp) (loop_acc (F := P_laws_heldBoolS.l0 N (qfn P N n) 0) (N := N) (σ := Unit) (len := m) (fun i _ => ([.sl [.sc] ((marksBool k m).map eBool), .int .i64 (k + (i : Nat)), .int .i64 (i : Nat)] : List DV)) (fun _ _ => [])
    (fun _ _ => True) (fun i _ => some ([DV.int .i64 (k + m)], [])) ?_ ?_ m (i := 0) (s := ()) trivial (by omega) (by omega))
  · intro i _ rec hi _
    refine .inl ⟨(), trivial, ?_, rfl⟩
    have hi' : i < (marksBool k m).length := by omega
    unfold P_laws_heldBoolS.l0
    simp only [u3_list, qLen_sl, List.length_map, hml, bd_some, qBin_lss, qB_bool, Int.ofNat_lt, hi, decide_true, cond_true, qIA_map _ (show [Sh.sc].length = 1 from rfl) hi', qLd_rp, cells_eBool, getC_one, List.getElem?_cons_zero, Option.map_some, b2_some,
      c1_some, u1_list, qBin_rem _ _ _ (k + (i : Nat)) 3 (by decide), qBin_eql, qBin_bne, marksBool_get, ne_eq, not_true_eq_false, decide_false, cond_false, qBin_add, beq_self_eq_true, Bool.not_true]
    rw [wrapI (n := (i : Int) + 1) (by constructor <;> omega), wrapI (n := k + (i : Nat) + 1) (by constructor <;> omega)]
    rw [show k + (i : Nat) + 1 = k + ((i + 1 : Nat) : Int) by omega]
    rfl
  · intro _ rec _
    unfold P_laws_heldBoolS.l0
    simp [hml]
theorem cq_heldBool {N n : Nat} (hN : 4294967296 ≤ N) (m : Nat) (k : Int) (hn : m ≤ 1048576) (h0 : 0 < k) (h1 : k ≤ 100000000) {μ : PH} {args : List DV} (hs : sns μ S_laws_heldBoolS.ps args = some [.sl [.sc] ((marksBool k m).map eBool), .int .i64 k]) :
    cq S_laws_heldBoolS (qfn P N (n + 1) n_laws_heldBoolS) args μ = some ([.int .i64 (k + m)], μ) := by
  rw [cq_sn rfl hs (heldBoolS_ok hN m k hn h0 h1) rfl, adL_sc rfl]
end Go.Lg.Pv.Q
namespace Go.Lg.Pv.Q
open Go Go.Lg Go.Lg.Pv
set_option linter.unusedVariables false
set_option linter.unusedSimpArgs false
set_option maxRecDepth 100000

structure Win where
  pieces : List ByteArray
  size : Int
  heard : List Bool
  line : List Frm
  held : List ByteArray
  has : List Bool
  told : Int
  deriving DecidableEq
abbrev shWin : List Sh := [.sl [.sc], .sc, .sl [.sc], .sl shFrm, .sl [.sc], .sl [.sc], .sc]
def Win.enc (v : Win) : DV := .agg [.sl [.sc] (v.pieces.map DV.str), .int .i64 v.size, .sl [.sc] (v.heard.map eBool), .sl shFrm (v.line.map Frm.enc), .sl [.sc] (v.held.map DV.str), .sl [.sc] (v.has.map eBool), .int .i64 v.told]
theorem Win.cl (v : Win) : Pv.cl v.enc = true := by
  have h0 := txt_cl v.pieces
  have h2 := eBool_cl v.heard
  have h3 := clL_map Frm.cl v.line
  have h4 := txt_cl v.held
  have h5 := eBool_cl v.has
  simp [Win.enc, Pv.cl, clL, h0, h2, h3, h4, h5]
structure Win.ok (v : Win) : Prop where
  pieces : ((∀ y ∈ v.pieces, (y.size : Int) ≤ 9223372036854775807) ∧ (v.pieces.length : Int) ≤ 9223372036854775807)
  size : inI v.size
  heard : ((∀ y ∈ v.heard, True) ∧ (v.heard.length : Int) ≤ 9223372036854775807)
  line : ((∀ y ∈ v.line, y.ok) ∧ (v.line.length : Int) ≤ 9223372036854775807)
  held : ((∀ y ∈ v.held, (y.size : Int) ≤ 9223372036854775807) ∧ (v.held.length : Int) ≤ 9223372036854775807)
  has : ((∀ y ∈ v.has, True) ∧ (v.has.length : Int) ≤ 9223372036854775807)
  told : inI v.told
theorem a7_win {α : Type} (v : Win) (k : DV → DV → DV → DV → DV → DV → DV → Option α) : a7 v.enc k = k (.sl [.sc] (v.pieces.map DV.str)) (.int .i64 v.size) (.sl [.sc] (v.heard.map eBool)) (.sl shFrm (v.line.map Frm.enc)) (.sl [.sc] (v.held.map DV.str)) (.sl [.sc] (v.has.map eBool)) (.int .i64 v.told) := rfl
theorem fold_win (v : Win) : DV.agg [.sl [.sc] (v.pieces.map DV.str), .int .i64 v.size, .sl [.sc] (v.heard.map eBool), .sl shFrm (v.line.map Frm.enc), .sl [.sc] (v.held.map DV.str), .sl [.sc] (v.has.map eBool), .int .i64 v.told] = v.enc := rfl
def winOwn (i : Nat) (v : Win) : DV := .agg [.own i 0 0 v.pieces.length v.pieces.length false, .int .i64 v.size, .own (i + 1) 0 0 v.heard.length v.heard.length false, .own (i + 2) 0 0 v.line.length v.line.length false, .own (i + 3) 0 0 v.held.length v.held.length false, .own (i + 4) 0 0 v.has.length v.has.length false, .int .i64 v.told]
theorem a7_winOwn {α : Type} (i : Nat) (v : Win) (k : DV → DV → DV → DV → DV → DV → DV → Option α) : a7 (winOwn i v) k = k (.own i 0 0 v.pieces.length v.pieces.length false) (.int .i64 v.size) (.own (i + 1) 0 0 v.heard.length v.heard.length false) (.own (i + 2) 0 0 v.line.length v.line.length false) (.own (i + 3) 0 0 v.held.length v.held.length false) (.own (i + 4) 0 0 v.has.length v.has.length false) (.int .i64 v.told) := rfl
theorem fold_winOwn (i : Nat) (v : Win) : DV.agg [.own i 0 0 v.pieces.length v.pieces.length false, .int .i64 v.size, .own (i + 1) 0 0 v.heard.length v.heard.length false, .own (i + 2) 0 0 v.line.length v.line.length false, .own (i + 3) 0 0 v.held.length v.held.length false, .own (i + 4) 0 0 v.has.length v.has.length false, .int .i64 v.told] = winOwn i v := rfl
theorem snWin {μ : PH} {i : Nat} {v : Win} (h0 : bk μ i 0 = some (tB 0 v.pieces)) (h1 : bk μ (i + 1) 0 = some (boolB v.heard)) (h2 : bk μ (i + 2) 0 = some (frmB v.line)) (h3 : bk μ (i + 3) 0 = some (tB 0 v.held)) (h4 : bk μ (i + 4) 0 = some (boolB v.has)) : sn μ shWin (winOwn i v) = some v.enc := by
  have e0 : snC μ 6 (.sl [.sc]) (.own i 0 0 v.pieces.length v.pieces.length false) = some (.sl [.sc] (v.pieces.map DV.str)) := snT (s := [.sl [.sc]]) h0 rfl rfl rfl
  have e1 : snC μ 6 (.sl [.sc]) (.own (i + 1) 0 0 v.heard.length v.heard.length false) = some (.sl [.sc] (v.heard.map eBool)) := snBool (s := [.sl [.sc]]) h1 rfl rfl rfl
  have e2 : snC μ 6 (.sl shFrm) (.own (i + 2) 0 0 v.line.length v.line.length false) = some (.sl shFrm (v.line.map Frm.enc)) := snFrm (s := [.sl shFrm]) h2 rfl rfl rfl
  have e3 : snC μ 6 (.sl [.sc]) (.own (i + 3) 0 0 v.held.length v.held.length false) = some (.sl [.sc] (v.held.map DV.str)) := snT (s := [.sl [.sc]]) h3 rfl rfl rfl
  have e4 : snC μ 6 (.sl [.sc]) (.own (i + 4) 0 0 v.has.length v.has.length false) = some (.sl [.sc] (v.has.map eBool)) := snBool (s := [.sl [.sc]]) h4 rfl rfl rfl
  have e : ∀ (s : Sh) (k : IntKind) (a : Int), snC μ 6 s (.int k a) = some (.int k a) := fun _ _ _ => rfl
  have eb : ∀ (s : Sh) (a : Bool), snC μ 6 s (.bool a) = some (.bool a) := fun _ _ => rfl
  have es : ∀ (s : Sh) (a : ByteArray), snC μ 6 s (.str a) = some (.str a) := fun _ _ => rfl
  simp only [sn, onE, winOwn, zipO, List.headD_cons, List.tail_cons, e0, e1, e2, e3, e4, e, eb, es, Option.bind_some, Option.map_some]
  rfl
theorem adL_win (μ : PH) (v : Win) (r : List DV) : adL true μ (v.enc :: r) = (winOwn μ.length v :: (adL true (μ ++ [tB 0 v.pieces, boolB v.heard, frmB v.line, tB 0 v.held, boolB v.has]) r).1, (adL true (μ ++ [tB 0 v.pieces, boolB v.heard, frmB v.line, tB 0 v.held, boolB v.has]) r).2) := by
  simp [adL, adV, unfL, Win.enc, winOwn, tB, boolB, frmB]
def szWin (v : Win) (left : Int) : Int := szStep (szTexts v.pieces left) fun l0 => szStep (szBoolS v.heard l0) fun l1 => szStep (szFrmS v.line l1) fun l2 => szStep (szTexts v.held l2) fun l3 => szStep (szBoolS v.has l3) fun l4 => l4
theorem szWin_bd {v : Win} {left : Int} (h : ¬ szWin v left < 0) : (v.pieces.length : Int) ≤ left ∧ (v.heard.length : Int) ≤ left ∧ (v.line.length : Int) ≤ left ∧ (v.held.length : Int) ≤ left ∧ (v.has.length : Int) ≤ left ∧ szWin v left ≤ left := by
  unfold szWin at h ⊢
  by_cases c0 : szTexts v.pieces left < 0
  · rw [szStep_lt c0] at h; exact absurd (by decide) h
  have b0 := szTexts_bd c0
  rw [szStep_neg c0] at h ⊢
  generalize szTexts v.pieces left = l0 at *
  by_cases c1 : szBoolS v.heard l0 < 0
  · rw [szStep_lt c1] at h; exact absurd (by decide) h
  have b1 := szBoolS_bd c1
  rw [szStep_neg c1] at h ⊢
  generalize szBoolS v.heard l0 = l1 at *
  by_cases c2 : szFrmS v.line l1 < 0
  · rw [szStep_lt c2] at h; exact absurd (by decide) h
  have b2 := szFrmS_bd c2
  rw [szStep_neg c2] at h ⊢
  generalize szFrmS v.line l1 = l2 at *
  by_cases c3 : szTexts v.held l2 < 0
  · rw [szStep_lt c3] at h; exact absurd (by decide) h
  have b3 := szTexts_bd c3
  rw [szStep_neg c3] at h ⊢
  generalize szTexts v.held l2 = l3 at *
  by_cases c4 : szBoolS v.has l3 < 0
  · rw [szStep_lt c4] at h; exact absurd (by decide) h
  have b4 := szBoolS_bd c4
  rw [szStep_neg c4] at h ⊢
  generalize szBoolS v.has l3 = l4 at *
  omega
theorem szWindow_ok {N n : Nat} (hN : 4294967296 ≤ N) (v : Win) (hv : v.ok) (left : Int) (h0 : 0 ≤ left) (h1 : left ≤ 1048576) :
    run1 S_laws_szWindow (qfn P N (n + 3) n_laws_szWindow) [v.enc, .int .i64 left] = some ([.int .i64 (szWin v left)], []) := by
  refine run1_of (ν := []) rfl rfl rfl (r := [.int .i64 (szWin v left)]) ?_ (resO_sc rfl)
  rw [laws_szWindow_eq]
  unfold P_laws_szWindow szWin
  simp only [a7_win]
  rw [cq_sn (args' := [.sl [.sc] (v.pieces.map DV.str), .int .i64 (left)]) rfl (by simp only [sns, S_laws_szStringS, sn_cl _ _ (txts_cl v.pieces), snI, Option.bind_some]) (szStringS_ok (n := n + 1) hN v.pieces left (by omega) (by omega) hv.pieces.1 hv.pieces.2) rfl, adL_sc rfl]
  simp only [c1_some, u1_list, qBin_lss, bd_some, qB_bool]
  by_cases c0 : szTexts v.pieces left < 0
  · rw [szStep_lt c0]; simp only [c0, decide_true, cond_true]
  have b0 := szTexts_bd c0
  rw [szStep_neg c0]
  simp only [c0, decide_false, cond_false]
  generalize szTexts v.pieces left = l0 at *
  rw [cq_sn (args' := [.sl [.sc] (v.heard.map eBool), .int .i64 (l0)]) rfl (by simp only [sns, S_laws_szBoolS, sn_cl _ _ (bools_cl v.heard), snI, Option.bind_some]) (szBoolS_ok (n := n + 1) v.heard l0 (by omega) (by omega) hv.heard.2) rfl, adL_sc rfl]
  simp only [c1_some, u1_list, qBin_lss, bd_some, qB_bool]
  by_cases c1 : szBoolS v.heard l0 < 0
  · rw [szStep_lt c1]; simp only [c1, decide_true, cond_true]
  have b1 := szBoolS_bd c1
  rw [szStep_neg c1]
  simp only [c1, decide_false, cond_false]
  generalize szBoolS v.heard l0 = l1 at *
  rw [cq_sn (args' := [.sl shFrm (v.line.map Frm.enc), .int .i64 (l1)]) rfl (by simp only [sns, S_laws_szFrameS, sn_cl _ _ (frms_cl v.line), snI, Option.bind_some]) (szFrameS_ok (n := n + 0) hN v.line l1 (by omega) (by omega) hv.line.1 hv.line.2) rfl, adL_sc rfl]
  simp only [c1_some, u1_list, qBin_lss, bd_some, qB_bool]
  by_cases c2 : szFrmS v.line l1 < 0
  · rw [szStep_lt c2]; simp only [c2, decide_true, cond_true]
  have b2 := szFrmS_bd c2
  rw [szStep_neg c2]
  simp only [c2, decide_false, cond_false]
  generalize szFrmS v.line l1 = l2 at *
  rw [cq_sn (args' := [.sl [.sc] (v.held.map DV.str), .int .i64 (l2)]) rfl (by simp only [sns, S_laws_szStringS, sn_cl _ _ (txts_cl v.held), snI, Option.bind_some]) (szStringS_ok (n := n + 1) hN v.held l2 (by omega) (by omega) hv.held.1 hv.held.2) rfl, adL_sc rfl]
  simp only [c1_some, u1_list, qBin_lss, bd_some, qB_bool]
  by_cases c3 : szTexts v.held l2 < 0
  · rw [szStep_lt c3]; simp only [c3, decide_true, cond_true]
  have b3 := szTexts_bd c3
  rw [szStep_neg c3]
  simp only [c3, decide_false, cond_false]
  generalize szTexts v.held l2 = l3 at *
  rw [cq_sn (args' := [.sl [.sc] (v.has.map eBool), .int .i64 (l3)]) rfl (by simp only [sns, S_laws_szBoolS, sn_cl _ _ (bools_cl v.has), snI, Option.bind_some]) (szBoolS_ok (n := n + 1) v.has l3 (by omega) (by omega) hv.has.2) rfl, adL_sc rfl]
  simp only [c1_some, u1_list, qBin_lss, bd_some, qB_bool]
  by_cases c4 : szBoolS v.has l3 < 0
  · rw [szStep_lt c4]; simp only [c4, decide_true, cond_true]
  have b4 := szBoolS_bd c4
  rw [szStep_neg c4]
  simp only [c4, decide_false, cond_false]
theorem toWindow_ok {N n : Nat} (hN : 4294967296 ≤ N) (v : Win) (h0 : v.pieces.length ≤ 1048576) (h1 : v.heard.length ≤ 1048576) (h2 : v.line.length ≤ 1048576) (h3 : v.held.length ≤ 1048576) (h4 : v.has.length ≤ 1048576) :
    run1 S_laws_toWindow (qfn P N (n + 3) n_laws_toWindow) [v.enc] = some ([v.enc], []) := by
  refine run1_of rfl rfl rfl (r := [winOwn 0 v]) (ν := [tB 0 v.pieces, boolB v.heard, frmB v.line, tB 0 v.held, boolB v.has]) (ν' := (kl (kl (kl (kl (kl [tB 0 v.pieces, boolB v.heard, frmB v.line, tB 0 v.held, boolB v.has] 0) 1) 2) 3) 4)) ?_ ?_
  · rw [laws_toWindow_eq]
    unfold P_laws_toWindow winOwn
    simp only [a7_win]
    rw [cq_toS (n := n + 1) hN v.pieces h0]
    simp only [c1_some, u1_list, s1_own, s1_int, s1_bool, s1_str, a7_agg, List.nil_append, List.cons_append, List.length_nil, List.length_cons, Nat.zero_add, Nat.reduceAdd]
    rw [cq_toBool (n := n + 1) hN v.heard h1]
    simp only [c1_some, u1_list, s1_own, s1_int, s1_bool, s1_str, a7_agg, List.nil_append, List.cons_append, List.length_nil, List.length_cons, Nat.zero_add, Nat.reduceAdd]
    rw [cq_toFrm (n := n + 0) hN v.line h2]
    simp only [c1_some, u1_list, s1_own, s1_int, s1_bool, s1_str, a7_agg, List.nil_append, List.cons_append, List.length_nil, List.length_cons, Nat.zero_add, Nat.reduceAdd]
    rw [cq_toS (n := n + 1) hN v.held h3]
    simp only [c1_some, u1_list, s1_own, s1_int, s1_bool, s1_str, a7_agg, List.nil_append, List.cons_append, List.length_nil, List.length_cons, Nat.zero_add, Nat.reduceAdd]
    rw [cq_toBool (n := n + 1) hN v.has h4]
    simp only [c1_some, u1_list, s1_own, s1_int, s1_bool, s1_str, a7_agg, List.nil_append, List.cons_append, List.length_nil, List.length_cons, Nat.zero_add, Nat.reduceAdd]
  · have t3 : ∀ (μ : PH) (s : Sh) (k : IntKind) (a : Int), tkC μ s (.int k a) = some (.int k a, μ) := fun _ _ _ _ => rfl
    have t4 : ∀ (μ : PH) (s : Sh) (a : Bool), tkC μ s (.bool a) = some (.bool a, μ) := fun _ _ _ => rfl
    have t5 : ∀ (μ : PH) (s : Sh) (a : ByteArray), tkC μ s (.str a) = some (.str a, μ) := fun _ _ _ => rfl
    have b0 : bk [tB 0 v.pieces, boolB v.heard, frmB v.line, tB 0 v.held, boolB v.has] 0 0 = some (tB 0 v.pieces) := rfl
    have u0 := tk_own (s := .sl [.sc]) (x := false) (c := v.pieces.length) b0 rfl rfl (own_all (b := tB 0 v.pieces) (l := v.pieces.map DV.str) (n := v.pieces.length) rfl (by simp)) (txt_cl v.pieces)
    have b1 : bk (kl [tB 0 v.pieces, boolB v.heard, frmB v.line, tB 0 v.held, boolB v.has] 0) 1 0 = some (boolB v.heard) := rfl
    have u1 := tk_own (s := .sl [.sc]) (x := false) (c := v.heard.length) b1 rfl rfl (own_all (b := boolB v.heard) (l := v.heard.map eBool) (n := v.heard.length) rfl (by simp)) (eBool_cl v.heard)
    have b2 : bk (kl (kl [tB 0 v.pieces, boolB v.heard, frmB v.line, tB 0 v.held, boolB v.has] 0) 1) 2 0 = some (frmB v.line) := rfl
    have u2 := tk_own (s := .sl shFrm) (x := false) (c := v.line.length) b2 rfl rfl (own_all (b := frmB v.line) (l := v.line.map Frm.enc) (n := v.line.length) rfl (by simp)) (clL_map Frm.cl v.line)
    have b3 : bk (kl (kl (kl [tB 0 v.pieces, boolB v.heard, frmB v.line, tB 0 v.held, boolB v.has] 0) 1) 2) 3 0 = some (tB 0 v.held) := rfl
    have u3 := tk_own (s := .sl [.sc]) (x := false) (c := v.held.length) b3 rfl rfl (own_all (b := tB 0 v.held) (l := v.held.map DV.str) (n := v.held.length) rfl (by simp)) (txt_cl v.held)
    have b4 : bk (kl (kl (kl (kl [tB 0 v.pieces, boolB v.heard, frmB v.line, tB 0 v.held, boolB v.has] 0) 1) 2) 3) 4 0 = some (boolB v.has) := rfl
    have u4 := tk_own (s := .sl [.sc]) (x := false) (c := v.has.length) b4 rfl rfl (own_all (b := boolB v.has) (l := v.has.map eBool) (n := v.has.length) rfl (by simp)) (eBool_cl v.has)
    simp only [resO, S_laws_toWindow, onS, zipS, winOwn, List.headD_cons, List.tail_cons, Nat.zero_add, u0, u1, u2, u3, u4, t3, t4, t5, Option.bind_some, Option.map_some]
    rfl
theorem eqWindow_ok {N n : Nat} (hN : 4294967296 ≤ N) (a b : Win) (h0 : a.pieces.length ≤ 1048576) (k0 : b.pieces.length ≤ 1048576) (h1 : a.heard.length ≤ 1048576) (k1 : b.heard.length ≤ 1048576) (h2 : a.line.length ≤ 1048576) (k2 : b.line.length ≤ 1048576) (h3 : a.held.length ≤ 1048576) (k3 : b.held.length ≤ 1048576) (h4 : a.has.length ≤ 1048576) (k4 : b.has.length ≤ 1048576) :
    run1 S_laws_eqWindow (qfn P N (n + 3) n_laws_eqWindow) [a.enc, b.enc] = some ([.bool (decide (a = b))], []) := by
  refine run1_of (ν := []) rfl rfl rfl (r := [.bool (decide (a = b))]) ?_ (resO_sc rfl)
  rw [laws_eqWindow_eq]
  unfold P_laws_eqWindow
  simp only [a7_win]
  have q0 := cq_sn (μ := []) (args := [.sl [.sc] (a.pieces.map DV.str), .sl [.sc] (b.pieces.map DV.str)]) (args' := [.sl [.sc] (a.pieces.map DV.str), .sl [.sc] (b.pieces.map DV.str)]) (s := S_laws_eqStringS) rfl (by simp only [sns, S_laws_eqStringS, sn_cl _ _ (txts_cl a.pieces), sn_cl _ _ (txts_cl b.pieces), Option.bind_some]) (eqStringS_ok (n := n + 1) hN a.pieces b.pieces h0 k0) rfl
  rw [adL_sc rfl] at q0
  have q1 := cq_sn (μ := []) (args := [.sl [.sc] (a.heard.map eBool), .sl [.sc] (b.heard.map eBool)]) (args' := [.sl [.sc] (a.heard.map eBool), .sl [.sc] (b.heard.map eBool)]) (s := S_laws_eqBoolS) rfl (by simp only [sns, S_laws_eqBoolS, sn_cl _ _ (bools_cl a.heard), sn_cl _ _ (bools_cl b.heard), Option.bind_some]) (eqBoolS_ok (n := n + 1) hN a.heard b.heard h1 k1) rfl
  rw [adL_sc rfl] at q1
  have q2 := cq_sn (μ := []) (args := [.sl shFrm (a.line.map Frm.enc), .sl shFrm (b.line.map Frm.enc)]) (args' := [.sl shFrm (a.line.map Frm.enc), .sl shFrm (b.line.map Frm.enc)]) (s := S_laws_eqFrameS) rfl (by simp only [sns, S_laws_eqFrameS, sn_cl _ _ (frms_cl a.line), sn_cl _ _ (frms_cl b.line), Option.bind_some]) (eqFrameS_ok (n := n + 0) hN a.line b.line h2 k2) rfl
  rw [adL_sc rfl] at q2
  have q3 := cq_sn (μ := []) (args := [.sl [.sc] (a.held.map DV.str), .sl [.sc] (b.held.map DV.str)]) (args' := [.sl [.sc] (a.held.map DV.str), .sl [.sc] (b.held.map DV.str)]) (s := S_laws_eqStringS) rfl (by simp only [sns, S_laws_eqStringS, sn_cl _ _ (txts_cl a.held), sn_cl _ _ (txts_cl b.held), Option.bind_some]) (eqStringS_ok (n := n + 1) hN a.held b.held h3 k3) rfl
  rw [adL_sc rfl] at q3
  have q4 := cq_sn (μ := []) (args := [.sl [.sc] (a.has.map eBool), .sl [.sc] (b.has.map eBool)]) (args' := [.sl [.sc] (a.has.map eBool), .sl [.sc] (b.has.map eBool)]) (s := S_laws_eqBoolS) rfl (by simp only [sns, S_laws_eqBoolS, sn_cl _ _ (bools_cl a.has), sn_cl _ _ (bools_cl b.has), Option.bind_some]) (eqBoolS_ok (n := n + 1) hN a.has b.has h4 k4) rfl
  rw [adL_sc rfl] at q4
  have he : a = b ↔ a.pieces = b.pieces ∧ a.size = b.size ∧ a.heard = b.heard ∧ a.line = b.line ∧ a.held = b.held ∧ a.has = b.has ∧ a.told = b.told := by cases a; cases b; simp
  simp only [c1_some, u1_list, qUn_not, bd_some, qB_bool, qBin_neq, qBin_sneq, qBin_bne, q0, q1, q2, q3, q4]
  by_cases e0 : a.pieces = b.pieces
  rotate_left
  · simp [he, e0]
  try simp only [decide_eq_true e0, Bool.not_true, cond_false, ne_eq, e0, not_true_eq_false, decide_false, c1_some, u1_list, bd_some, qB_bool, qUn_not, beq_self_eq_true]
  by_cases e1 : a.size = b.size
  rotate_left
  · simp [he, e1]
  try simp only [decide_eq_true e1, Bool.not_true, cond_false, ne_eq, e1, not_true_eq_false, decide_false, c1_some, u1_list, bd_some, qB_bool, qUn_not, beq_self_eq_true]
  by_cases e2 : a.heard = b.heard
  rotate_left
  · simp [he, e2]
  try simp only [decide_eq_true e2, Bool.not_true, cond_false, ne_eq, e2, not_true_eq_false, decide_false, c1_some, u1_list, bd_some, qB_bool, qUn_not, beq_self_eq_true]
  by_cases e3 : a.line = b.line
  rotate_left
  · simp [he, e3]
  try simp only [decide_eq_true e3, Bool.not_true, cond_false, ne_eq, e3, not_true_eq_false, decide_false, c1_some, u1_list, bd_some, qB_bool, qUn_not, beq_self_eq_true]
  by_cases e4 : a.held = b.held
  rotate_left
  · simp [he, e4]
  try simp only [decide_eq_true e4, Bool.not_true, cond_false, ne_eq, e4, not_true_eq_false, decide_false, c1_some, u1_list, bd_some, qB_bool, qUn_not, beq_self_eq_true]
  by_cases e5 : a.has = b.has
  rotate_left
  · simp [he, e5]
  try simp only [decide_eq_true e5, Bool.not_true, cond_false, ne_eq, e5, not_true_eq_false, decide_false, c1_some, u1_list, bd_some, qB_bool, qUn_not, beq_self_eq_true]
  by_cases e6 : a.told = b.told
  rotate_left
  · simp [he, e6]
  try simp only [decide_eq_true e6, Bool.not_true, cond_false, ne_eq, e6, not_true_eq_false, decide_false, c1_some, u1_list, bd_some, qB_bool, qUn_not, beq_self_eq_true]
  simp [he, e0, e1, e2, e3, e4, e5, e6]
def mkWin (k : Int) (v : Win) : Win := ⟨marks (k) v.pieces.length, v.size, marksBool (k + v.pieces.length) v.heard.length, marksFrm (k + v.pieces.length + v.heard.length) v.line.length, marks (k + v.pieces.length + v.heard.length + 3 * v.line.length) v.held.length, marksBool (k + v.pieces.length + v.heard.length + 3 * v.line.length + v.held.length) v.has.length, v.told⟩
def totWin (k : Int) (v : Win) : Int := k + v.pieces.length + v.heard.length + 3 * v.line.length + v.held.length + v.has.length
theorem markWindow_ok {N n : Nat} (hN : 4294967296 ≤ N) {μ : PH} {i : Nat} (v : Win) (k : Int) (k0 : 0 < k) (k1 : k ≤ 10000000) (h0 : v.pieces.length ≤ 1048576) (h1 : v.heard.length ≤ 1048576) (h2 : v.line.length ≤ 1048576) (h3 : v.held.length ≤ 1048576) (h4 : v.has.length ≤ 1048576) (b0 : bk μ i 0 = some (tB 0 v.pieces)) (b1 : bk μ (i + 1) 0 = some (boolB v.heard)) (b2 : bk μ (i + 2) 0 = some (frmB v.line)) (b3 : bk μ (i + 3) 0 = some (tB 0 v.held)) (b4 : bk μ (i + 4) 0 = some (boolB v.has)) :
    qfn P N (n + 3) n_laws_markWindow [winOwn i v, .int .i64 k] μ = some ([.int .i64 (totWin k v)], (((((μ.set i (tB 0 (mkWin k v).pieces)).set (i + 1) (boolB (mkWin k v).heard)).set (i + 2) (frmB (mkWin k v).line)).set (i + 3) (tB 0 (mkWin k v).held)).set (i + 4) (boolB (mkWin k v).has))) := by
  rw [laws_markWindow_eq]
  unfold P_laws_markWindow totWin mkWin
  simp only [a7_winOwn]
  rw [markStringS_ok (n := n + 0) hN (b := tB 0 v.pieces) b0 rfl rfl rfl h0 (by omega) (by omega)]
  simp only [c1_some, u1_list]
  rw [markBoolS_ok (n := n + 1) hN (b := boolB v.heard) (by rw [bk_set_ne (by omega)]; exact b1) rfl rfl rfl h1 (by omega) (by omega)]
  simp only [c1_some, u1_list]
  rw [markFrameS_ok (n := n + 0) hN (b := frmB v.line) (by rw [bk_set_ne (by omega), bk_set_ne (by omega)]; exact b2) rfl rfl rfl h2 (by omega) (by omega)]
  simp only [c1_some, u1_list]
  rw [markStringS_ok (n := n + 0) hN (b := tB 0 v.held) (by rw [bk_set_ne (by omega), bk_set_ne (by omega), bk_set_ne (by omega)]; exact b3) rfl rfl rfl h3 (by omega) (by omega)]
  simp only [c1_some, u1_list]
  rw [markBoolS_ok (n := n + 1) hN (b := boolB v.has) (by rw [bk_set_ne (by omega), bk_set_ne (by omega), bk_set_ne (by omega), bk_set_ne (by omega)]; exact b4) rfl rfl rfl h4 (by omega) (by omega)]
  simp only [c1_some, u1_list]
  rfl
theorem heldWindow_ok {N n : Nat} (hN : 4294967296 ≤ N) (v : Win) (k : Int) (k0 : 0 < k) (k1 : k ≤ 10000000) (h0 : v.pieces.length ≤ 1048576) (h1 : v.heard.length ≤ 1048576) (h2 : v.line.length ≤ 1048576) (h3 : v.held.length ≤ 1048576) (h4 : v.has.length ≤ 1048576) :
    run1 S_laws_heldWindow (qfn P N (n + 3) n_laws_heldWindow) [(mkWin k v).enc, .int .i64 k] = some ([.int .i64 (totWin k v)], []) := by
  refine run1_of (ν := []) rfl rfl rfl (r := [.int .i64 (totWin k v)]) ?_ (resO_sc rfl)
  rw [laws_heldWindow_eq]
  unfold P_laws_heldWindow totWin mkWin
  simp only [a7_win]
  rw [cq_heldT (n := n + 0) hN v.pieces.length (k) h0 (by omega) (by omega) (by simp only [sns, S_laws_heldStringS, sn_cl _ _ (txts_cl (marks (k) v.pieces.length)), snI, Option.bind_some])]
  simp only [c1_some, u1_list, qBin_lss, bd_some, qB_bool, show ¬ (k + v.pieces.length < 0) by omega, decide_false, cond_false]
  rw [cq_heldBool (n := n + 1) hN v.heard.length (k + v.pieces.length) h1 (by omega) (by omega) (by simp only [sns, S_laws_heldBoolS, sn_cl _ _ (bools_cl (marksBool (k + v.pieces.length) v.heard.length)), snI, Option.bind_some])]
  simp only [c1_some, u1_list, qBin_lss, bd_some, qB_bool, show ¬ (k + v.pieces.length + v.heard.length < 0) by omega, decide_false, cond_false]
  rw [cq_heldFrm (n := n + 0) hN v.line.length (k + v.pieces.length + v.heard.length) h2 (by omega) (by omega) (by simp only [sns, S_laws_heldFrameS, sn_cl _ _ (frms_cl (marksFrm (k + v.pieces.length + v.heard.length) v.line.length)), snI, Option.bind_some])]
  simp only [c1_some, u1_list, qBin_lss, bd_some, qB_bool, show ¬ (k + v.pieces.length + v.heard.length + 3 * v.line.length < 0) by omega, decide_false, cond_false]
  rw [cq_heldT (n := n + 0) hN v.held.length (k + v.pieces.length + v.heard.length + 3 * v.line.length) h3 (by omega) (by omega) (by simp only [sns, S_laws_heldStringS, sn_cl _ _ (txts_cl (marks (k + v.pieces.length + v.heard.length + 3 * v.line.length) v.held.length)), snI, Option.bind_some])]
  simp only [c1_some, u1_list, qBin_lss, bd_some, qB_bool, show ¬ (k + v.pieces.length + v.heard.length + 3 * v.line.length + v.held.length < 0) by omega, decide_false, cond_false]
  rw [cq_heldBool (n := n + 1) hN v.has.length (k + v.pieces.length + v.heard.length + 3 * v.line.length + v.held.length) h4 (by omega) (by omega) (by simp only [sns, S_laws_heldBoolS, sn_cl _ _ (bools_cl (marksBool (k + v.pieces.length + v.heard.length + 3 * v.line.length + v.held.length) v.has.length)), snI, Option.bind_some])]
  simp only [c1_some, u1_list, qBin_lss, bd_some, qB_bool, show ¬ (k + v.pieces.length + v.heard.length + 3 * v.line.length + v.held.length + v.has.length < 0) by omega, decide_false, cond_false]
section
variable {N n : Nat} (hN : 4294967296 ≤ N)
include hN
theorem Q_toWin (v : Win) (h0 : v.pieces.length ≤ 1048576) (h1 : v.heard.length ≤ 1048576) (h2 : v.line.length ≤ 1048576) (h3 : v.held.length ≤ 1048576) (h4 : v.has.length ≤ 1048576) (μ : PH) : cq S_laws_toWindow (qfn P N (n + 9) n_laws_toWindow) [v.enc] μ = some ([winOwn μ.length v], μ ++ [tB 0 v.pieces, boolB v.heard, frmB v.line, tB 0 v.held, boolB v.has]) := by
  rw [cq_sn (args' := [v.enc]) rfl (by simp only [sns, S_laws_toWindow, sn_cl _ _ (Win.cl v), Option.bind_some]) (toWindow_ok (n := n + 6) hN v h0 h1 h2 h3 h4) rfl, adL_win]; rfl
theorem Q_eqWin (v : Win) (h0 : v.pieces.length ≤ 1048576) (h1 : v.heard.length ≤ 1048576) (h2 : v.line.length ≤ 1048576) (h3 : v.held.length ≤ 1048576) (h4 : v.has.length ≤ 1048576) {μ : PH} {i j : Nat} (b0 : bk μ i 0 = some (tB 0 v.pieces)) (b1 : bk μ (i + 1) 0 = some (boolB v.heard)) (b2 : bk μ (i + 2) 0 = some (frmB v.line)) (b3 : bk μ (i + 3) 0 = some (tB 0 v.held)) (b4 : bk μ (i + 4) 0 = some (boolB v.has)) (c0 : bk μ j 0 = some (tB 0 v.pieces)) (c1 : bk μ (j + 1) 0 = some (boolB v.heard)) (c2 : bk μ (j + 2) 0 = some (frmB v.line)) (c3 : bk μ (j + 3) 0 = some (tB 0 v.held)) (c4 : bk μ (j + 4) 0 = some (boolB v.has)) : cq S_laws_eqWindow (qfn P N (n + 9) n_laws_eqWindow) [winOwn i v, winOwn j v] μ = some ([.bool true], μ) := by
  rw [cq_sn (args' := [v.enc, v.enc]) rfl (by simp only [sns, S_laws_eqWindow, snWin b0 b1 b2 b3 b4, snWin c0 c1 c2 c3 c4, Option.bind_some]) (eqWindow_ok (n := n + 6) hN v v h0 h0 h1 h1 h2 h2 h3 h3 h4 h4) rfl, adL_sc rfl]
  simp
theorem Q_heldWin (v : Win) (k : Int) (k0 : 0 < k) (k1 : k ≤ 10000000) (h0 : v.pieces.length ≤ 1048576) (h1 : v.heard.length ≤ 1048576) (h2 : v.line.length ≤ 1048576) (h3 : v.held.length ≤ 1048576) (h4 : v.has.length ≤ 1048576) {μ : PH} {i : Nat} (b0 : bk μ i 0 = some (tB 0 (mkWin k v).pieces)) (b1 : bk μ (i + 1) 0 = some (boolB (mkWin k v).heard)) (b2 : bk μ (i + 2) 0 = some (frmB (mkWin k v).line)) (b3 : bk μ (i + 3) 0 = some (tB 0 (mkWin k v).held)) (b4 : bk μ (i + 4) 0 = some (boolB (mkWin k v).has)) : cq S_laws_heldWindow (qfn P N (n + 9) n_laws_heldWindow) [winOwn i v, .int .i64 k] μ = some ([.int .i64 (totWin k v)], μ) := by
  have hs := snWin (v := mkWin k v) b0 b1 b2 b3 b4
  have he : winOwn i (mkWin k v) = winOwn i v := by simp only [winOwn, mkWin, marks_len, marksBool_len, marksFrm_len]
  rw [he] at hs
  rw [cq_sn rfl (by simp only [sns, S_laws_heldWindow, hs, snI, Option.bind_some]) (heldWindow_ok (n := n + 6) hN v k k0 k1 h0 h1 h2 h3 h4) rfl, adL_sc rfl]
end
end Go.Lg.Pv.Q
namespace Go.Lg.Pv.Q
open Go Go.Lg Go.Lg.Pv
set_option linter.unusedVariables false
set_option linter.unusedSimpArgs false
set_option maxRecDepth 100000

def ldT : List Bool → Nat
  | true :: l => ldT l + 1
  | _ => 0
theorem ldT_le : ∀ l : List Bool, ldT l ≤ l.length
  | [] => Nat.le_refl _
  | true :: l => Nat.succ_le_succ (ldT_le l)
  | false :: l => Nat.zero_le _
theorem told_loop {N : Nat} {F : RecD → RecD} (hN : 4294967296 ≤ N) (l : List Bool) (hlen : l.length ≤ 1048576)
    (hF : ∀ rec xs s, F rec xs s = u2 xs fun x1 x2 => bd (qLen s x1) fun v4 => bd (qBin s (.int .i64) .lss x2 v4) fun v5 => qB v5 fun q6 => cond q6 (bd (qIA s 1 x1 x2) fun v7 => b2 (qLd s 1 false v7) fun v8 s9 => qB v8 fun q10 => cond q10 (bd (qBin s9 (.int .i64) .add x2 (.int .i64 1)) fun v11 => rec [x1, v11] s9) (some ([x2], s9))) (some ([x2], s))) :
    iterD F N [.sl [.sc] (l.map eBool), .int .i64 0] [] = some ([.int .i64 (ldT l)], []) := by
  refine Eq.trans (by simp) (loop_acc (F := F) (N := N) (σ := Unit) (len := l.length) (fun i _ => ([.sl [.sc] (l.map eBool), .int .i64 (i : Nat)] : List DV)) (fun _ _ => []) (fun i _ => ldT l = i + ldT (l.drop i)) (fun i _ => some ([DV.int .i64 (ldT l)], []))
    ?_ ?_ l.length (i := 0) (s := ()) (by simp) (by omega) (by omega))
  · intro i _ rec hi hI
    have hx : l.drop i = l[i] :: l.drop (i + 1) := List.drop_eq_getElem_cons hi
    rw [hx] at hI
    rw [hF]
    simp only [u2_list, qLen_sl, List.length_map, bd_some, qBin_lss, qB_bool, Int.ofNat_lt, hi, decide_true, cond_true, qIA_map _ (show [Sh.sc].length = 1 from rfl) hi, qLd_rp, cells_eBool, getC_one, List.getElem?_cons_zero, Option.map_some, b2_some]
    cases hb : l[i] with
    | true =>
      rw [hb] at hI
      refine .inl ⟨(), (by simp only [ldT] at hI; omega), ?_, trivial⟩
      simp only [qB_bool, cond_true, qBin_add, bd_some]
      rw [wrapI (n := (i : Int) + 1) (by constructor <;> omega)]
      rfl
    | false =>
      rw [hb] at hI
      refine .inr ?_
      simp only [qB_bool, cond_false]
      have : ldT l = i := by simpa [ldT] using hI
      rw [this]
  · intro _ rec hI
    rw [hF]
    have : ldT l = l.length := by simpa [ldT] using hI
    simp [this]
theorem told_ok {N n : Nat} (hN : 4294967296 ≤ N) (l : List Bool) (hlen : l.length ≤ 1048576) {μ : PH} {args : List DV} (hs : sns μ S_spec_l9Told.ps args = some [.sl [.sc] (l.map eBool)]) :
    cq S_spec_l9Told (qfn P N (n + 1) n_spec_l9Told) args μ = some ([.int .i64 (ldT l)], μ) := by
  rw [cq_sn (res := [.int .i64 (ldT l)]) rfl hs ?_ rfl, adL_sc rfl]
  refine run1_of (ν := []) rfl rfl rfl (r := [.int .i64 (ldT l)]) ?_ (resO_sc rfl)
  rw [spec_l9Told_eq]
  unfold P_spec_l9Told
  exact told_loop hN l hlen fun _ _ _ => rfl
theorem without_ok {N n : Nat} (hN : 4294967296 ≤ N) (l : List Bool) (hlen : l.length ≤ 1048576) {μ : PH} {args : List DV} (hs : sns μ S_impl_without.ps args = some [.sl [.sc] (l.map eBool)]) :
    cq S_impl_without (qfn P N (n + 1) n_impl_without) args μ = some ([.int .i64 (ldT l)], μ) := by
  rw [cq_sn (res := [.int .i64 (ldT l)]) rfl hs ?_ rfl, adL_sc rfl]
  refine run1_of (ν := []) rfl rfl rfl (r := [.int .i64 (ldT l)]) ?_ (resO_sc rfl)
  rw [impl_without_eq]
  unfold P_impl_without
  exact told_loop hN l hlen fun _ _ _ => rfl

/-! what a step does -/
def writeW (w : Win) (f : Frm) : Win := if w.line.length < 30 then { w with line := w.line ++ [f] } else w
def takeW (w : Win) (f : Frm) : Win :=
  if f.back then { w with heard := w.heard.set f.no.toNat true }
  else writeW { w with has := w.has.set f.no.toNat true, held := w.held.set f.no.toNat f.text, told := ldT (w.has.set f.no.toNat true) } ⟨true, f.no, ⟨#[]⟩⟩
def canW (w : Win) (k : Int) : Bool := decide ((ldT w.heard : Int) ≤ k) && decide (k < w.pieces.length) && decide (k < ldT w.heard + w.size) && !(w.heard.getD k.toNat false)
def stepW (w : Win) (s : WStep) : Win × Bool :=
  if s.kind = 1 then (if canW w s.k = true then (writeW w ⟨false, s.k, w.pieces.getD s.k.toNat ⟨#[]⟩⟩, true) else (w, false))
  else if 0 ≤ s.k ∧ s.k < w.line.length ∧ 2 ≤ s.kind ∧ s.kind ≤ 4 then
    (if s.kind = 4 then (if w.line.length = 30 then (w, false) else (writeW w (w.line.getD s.k.toNat frm0), true))
     else if s.kind = 2 then (takeW { w with line := w.line.eraseIdx s.k.toNat } (w.line.getD s.k.toNat frm0), true)
     else ({ w with line := w.line.eraseIdx s.k.toNat }, true))
  else (w, false)
/-- a window that is well -/
structure WOk (w : Win) : Prop where
  h1 : w.heard.length = w.pieces.length
  h2 : w.held.length = w.pieces.length
  h3 : w.has.length = w.pieces.length
  n : w.pieces.length ≤ 13
  s0 : 1 ≤ w.size
  s1 : w.size ≤ 12
  l : w.line.length ≤ 30
  f : ∀ f ∈ w.line, 0 ≤ f.no ∧ f.no < w.pieces.length
theorem writeW_ok {w : Win} {f : Frm} (h : WOk w) (hf : 0 ≤ f.no ∧ f.no < w.pieces.length) : WOk (writeW w f) := by
  unfold writeW
  split
  · rename_i hl
    refine ⟨h.h1, h.h2, h.h3, h.n, h.s0, h.s1, ?_, ?_⟩
    · simp only [List.length_append, List.length_cons, List.length_nil]; omega
    · intro g hg
      rcases List.mem_append.1 hg with hg | hg
      · exact h.f g hg
      · simp at hg; subst hg; exact hf
  · exact h
theorem takeW_ok {w : Win} {f : Frm} (h : WOk w) (hf : 0 ≤ f.no ∧ f.no < w.pieces.length) : WOk (takeW w f) := by
  unfold takeW
  split
  · exact ⟨by simp [h.h1], h.h2, h.h3, h.n, h.s0, h.s1, h.l, h.f⟩
  · refine writeW_ok ⟨h.h1, by simp [h.h2], by simp [h.h3], h.n, h.s0, h.s1, h.l, h.f⟩ hf
theorem erase_ok {w : Win} (h : WOk w) (k : Nat) : WOk { w with line := w.line.eraseIdx k } :=
  ⟨h.h1, h.h2, h.h3, h.n, h.s0, h.s1, Nat.le_trans (List.length_eraseIdx_le _ _) h.l, fun f hf => h.f f (List.mem_of_mem_eraseIdx hf)⟩
theorem getD_mem {α : Type} {l : List α} {k : Nat} {d : α} (h : k < l.length) : l.getD k d = l[k] := by simp [List.getD, h]
theorem stepW_ok {w : Win} (h : WOk w) (s : WStep) : WOk (stepW w s).1 := by
  unfold stepW
  split
  · split
    · rename_i hc
      unfold canW at hc
      simp only [Bool.and_eq_true, decide_eq_true_eq] at hc
      exact writeW_ok h ⟨by show 0 ≤ s.k; omega, hc.1.1.2⟩
    · exact h
  · split
    · rename_i hk
      have hm : w.line.getD s.k.toNat frm0 ∈ w.line := by rw [getD_mem (by omega)]; exact List.getElem_mem _
      split
      · split
        · exact h
        · exact writeW_ok h (h.f _ hm)
      · split
        · exact takeW_ok (erase_ok h _) (h.f _ hm)
        · exact erase_ok h _
    · exact h

/-! windows in memory -/
def wM (w : Win) : PH := [tB 0 w.pieces, boolB w.heard, frmB w.line, tB 0 w.held, boolB w.has]
theorem wM_ap {μ : PH} {w : Win} {i : Nat} (hi : i < 5) : ∀ v, bk (μ ++ wM w) (μ.length + i) v = bk (wM w) i v := fun v => by
  unfold bk
  rw [List.getElem?_append_right (by omega)]
  rw [show μ.length + i - μ.length = i by omega]
/-- cells of a window, its line anywhere -/
def wC (i : Nat) (ln : DV) (w : Win) : List DV := [.own i 0 0 w.pieces.length w.pieces.length false, .int .i64 w.size, .own (i + 1) 0 0 w.heard.length w.heard.length false, ln, .own (i + 3) 0 0 w.held.length w.held.length false, .own (i + 4) 0 0 w.has.length w.has.length false, .int .i64 w.told]
/-- the line: nothing, or in a block -/
inductive LN (μ : PH) : DV → List Frm → Prop where
  | e0 : LN μ (.e0 3) []
  | own (il vl o m c : Nat) (bj : PB) (l : List Frm) : bk μ il vl = some bj → IsL shFrm Frm.enc bj o m l → m ≤ c → LN μ (.own il vl o m c false) l
def idO : DV → Option Nat | .own id .. => some id | _ => none
structure WB (μ : PH) (i : Nat) (w : Win) (ln : DV) : Prop where
  b0 : bk μ i 0 = some (tB 0 w.pieces)
  b1 : bk μ (i + 1) 0 = some (boolB w.heard)
  b3 : bk μ (i + 3) 0 = some (tB 0 w.held)
  b4 : bk μ (i + 4) 0 = some (boolB w.has)
  lna : LN μ ln w.line
  ne : ∀ il, idO ln = some il → il ≠ i ∧ il ≠ i + 1 ∧ il ≠ i + 3 ∧ il ≠ i + 4
theorem isl_frmB (l : List Frm) : IsL shFrm Frm.enc (frmB l) 0 l.length l := ⟨rfl, rfl, rfl, by simp only [frmB, List.drop_zero]; exact List.take_of_length_le (by simp), by simp [frmB]⟩
theorem WB.sn {μ : PH} {i : Nat} {w : Win} {ln : DV} (h : WB μ i w ln) : sn μ shWin (.agg (wC i ln w)) = some w.enc := by
  have e0 : snC μ 6 (.sl [.sc]) (.own i 0 0 w.pieces.length w.pieces.length false) = some (.sl [.sc] (w.pieces.map DV.str)) := snT (s := [.sl [.sc]]) h.b0 rfl rfl rfl
  have e1 : snC μ 6 (.sl [.sc]) (.own (i + 1) 0 0 w.heard.length w.heard.length false) = some (.sl [.sc] (w.heard.map eBool)) := snBool (s := [.sl [.sc]]) h.b1 rfl rfl rfl
  have e2 : snC μ 6 (.sl shFrm) ln = some (.sl shFrm (w.line.map Frm.enc)) := by
    have hl := h.lna
    generalize w.line = l at hl
    cases hl with
    | e0 => rfl
    | own il vl o m c bj _ hb hi hc => exact hi.sn (s := [.sl shFrm]) (c := c) (x := false) hb (clL_map Frm.cl _)
  have e3 : snC μ 6 (.sl [.sc]) (.own (i + 3) 0 0 w.held.length w.held.length false) = some (.sl [.sc] (w.held.map DV.str)) := snT (s := [.sl [.sc]]) h.b3 rfl rfl rfl
  have e4 : snC μ 6 (.sl [.sc]) (.own (i + 4) 0 0 w.has.length w.has.length false) = some (.sl [.sc] (w.has.map eBool)) := snBool (s := [.sl [.sc]]) h.b4 rfl rfl rfl
  have e : ∀ (s : Sh) (k : IntKind) (a : Int), snC μ 6 s (.int k a) = some (.int k a) := fun _ _ _ => rfl
  simp only [Pv.sn, onE, wC, zipO, List.headD_cons, List.tail_cons, e0, e1, e2, e3, e4, e, Option.bind_some, Option.map_some]
  rfl
theorem WB.res {μ : PH} {i : Nat} {w : Win} {ln : DV} (h : WB μ i w ln) : ∃ ν, onS tkC μ shWin (.agg (wC i ln w)) = some (w.enc, ν) ∧ ν.length = μ.length ∧
    ∀ k, k ≠ i → k ≠ i + 1 → k ≠ i + 3 → k ≠ i + 4 → (∀ il, idO ln = some il → k ≠ il) → ν[k]? = μ[k]? := by
  have g1 : bk (kl μ i) (i + 1) 0 = some (boolB w.heard) := by rw [kl_ne (by omega)]; exact h.b1
  have e0 := tk_own (s := .sl [.sc]) (x := false) (c := w.pieces.length) h.b0 rfl rfl (own_all (b := tB 0 w.pieces) (l := w.pieces.map DV.str) (n := w.pieces.length) rfl (by simp)) (txt_cl w.pieces)
  have e1 := tk_own (s := .sl [.sc]) (x := false) (c := w.heard.length) g1 rfl rfl (own_all (b := boolB w.heard) (l := w.heard.map eBool) (n := w.heard.length) rfl (by simp)) (eBool_cl w.heard)
  obtain ⟨ν2, e2, hl2, hk2⟩ : ∃ ν2, tkC (kl (kl μ i) (i + 1)) (.sl shFrm) ln = some (.sl shFrm (w.line.map Frm.enc), ν2) ∧ ν2.length = μ.length ∧ ∀ k, (∀ il, idO ln = some il → k ≠ il) → ν2[k]? = (kl (kl μ i) (i + 1))[k]? := by
    have hl := h.lna
    have hne := h.ne
    generalize w.line = l at hl
    cases hl with
    | e0 => exact ⟨_, rfl, by simp only [kl_len], fun k _ => rfl⟩
    | own il vl o m c bj _ hb hi hc =>
      obtain ⟨n0, n1, n3, n4⟩ := hne il rfl
      have g2 : bk (kl (kl μ i) (i + 1)) il vl = some bj := by rw [kl_ne (by omega), kl_ne (by omega)]; exact hb
      exact ⟨_, hi.tk (s := .sl shFrm) (x := false) (c := c) g2 (clL_map Frm.cl _), by simp only [kl_len], fun k hk => kl_gne (fun e => hk il rfl e.symm)⟩
  have g3 : bk ν2 (i + 3) 0 = some (tB 0 w.held) := by
    unfold bk; rw [hk2 (i + 3) fun il hi => (h.ne il hi).2.2.1.symm]
    have : bk (kl (kl μ i) (i + 1)) (i + 3) 0 = some (tB 0 w.held) := by rw [kl_ne (by omega), kl_ne (by omega)]; exact h.b3
    exact this
  have g4 : bk (kl ν2 (i + 3)) (i + 4) 0 = some (boolB w.has) := by
    rw [kl_ne (by omega)]
    unfold bk; rw [hk2 (i + 4) fun il hi => (h.ne il hi).2.2.2.symm]
    have : bk (kl (kl μ i) (i + 1)) (i + 4) 0 = some (boolB w.has) := by rw [kl_ne (by omega), kl_ne (by omega)]; exact h.b4
    exact this
  have e3 := tk_own (s := .sl [.sc]) (x := false) (c := w.held.length) g3 rfl rfl (own_all (b := tB 0 w.held) (l := w.held.map DV.str) (n := w.held.length) rfl (by simp)) (txt_cl w.held)
  have e4 := tk_own (s := .sl [.sc]) (x := false) (c := w.has.length) g4 rfl rfl (own_all (b := boolB w.has) (l := w.has.map eBool) (n := w.has.length) rfl (by simp)) (eBool_cl w.has)
  have e : ∀ (μ : PH) (s : Sh) (k : IntKind) (a : Int), tkC μ s (.int k a) = some (.int k a, μ) := fun _ _ _ _ => rfl
  refine ⟨kl (kl ν2 (i + 3)) (i + 4), ?_, by simp only [kl_len, hl2], fun k h0 h1 h3 h4 h2 => ?_⟩
  · simp only [onS, wC, zipS, List.headD_cons, List.tail_cons, e0, e1, e2, e3, e4, e, Option.bind_some, Option.map_some]
    rfl
  · rw [kl_gne h4.symm, kl_gne h3.symm, hk2 k h2, kl_gne h1.symm, kl_gne h0.symm]
theorem WB.own {μ : PH} {i : Nat} {w : Win} (b0 : bk μ i 0 = some (tB 0 w.pieces)) (b1 : bk μ (i + 1) 0 = some (boolB w.heard)) (b2 : bk μ (i + 2) 0 = some (frmB w.line)) (b3 : bk μ (i + 3) 0 = some (tB 0 w.held)) (b4 : bk μ (i + 4) 0 = some (boolB w.has)) :
    WB μ i w (.own (i + 2) 0 0 w.line.length w.line.length false) := ⟨b0, b1, b3, b4, .own _ _ _ _ _ _ _ b2 (isl_frmB w.line) (Nat.le_refl _), fun il hi => by cases hi; omega⟩
theorem WB.app (μ : PH) (w : Win) : WB (μ ++ wM w) μ.length w (.own (μ.length + 2) 0 0 w.line.length w.line.length false) :=
  WB.own (wM_ap (μ := μ) (w := w) (i := 0) (by decide) 0) (wM_ap (by decide) 0) (wM_ap (by decide) 0) (wM_ap (by decide) 0) (wM_ap (by decide) 0)
theorem winOwn_wC (i : Nat) (w : Win) : winOwn i w = .agg (wC i (.own (i + 2) 0 0 w.line.length w.line.length false) w) := rfl
theorem adL_w (μ : PH) (w : Win) (r : List DV) : adL true μ (w.enc :: r) = (winOwn μ.length w :: (adL true (μ ++ wM w) r).1, (adL true (μ ++ wM w) r).2) := adL_win μ w r
/-- a function that is given a window -/
theorem run1_mvW {s : Sig} {core : List DV → PH → RD} {w : Win} {a : DV} {s2 : List Sh} {r res : List DV} {ν ν' : PH} (hps : s.ps = [(.move, shWin), (.snap, s2)]) (hf : s.fresh = true) (hc : core [winOwn 0 w, a] (wM w) = some (r, ν)) (hr : resO s.rs r ν = some (res, ν')) :
    run1 s core [w.enc, a] = some (res, []) := by
  have he : enter s.ps [w.enc, a] [] = some ([winOwn 0 w, a], wM w) := by
    rw [hps]
    have h1 : adV true [] w.enc = (winOwn 0 w, wM w) := by
      have := adL_w [] w []
      simp only [adL, cond_true, List.length_nil, List.nil_append, Prod.mk.injEq, List.cons.injEq, and_true] at this
      exact Prod.ext this.1 this.2
    have h2 : (cellsD w.enc).all (fun c => okC c || isSl c) = true := rfl
    simp only [enter, h2, if_true, h1, Option.bind_some]
  unfold run1
  simp only [he, Option.bind_some, hc, hf, cond_true, hr]
theorem cq_mvW {s : Sig} {core : List DV → PH → RD} {w : Win} {a : DV} {s2 : List Sh} {res : List DV} {μ : PH} {i : Nat} {ln : DV} (hps : s.ps = [(.move, shWin), (.snap, s2)]) (hf : s.fresh = true) (ha : Pv.cl a = true) (h : WB μ i w ln) (hr : run1 s core [w.enc, a] = some (res, [])) (hok : okR res = true) :
    ∃ ν, cq s core [.agg (wC i ln w), a] μ = some (adL true ν res) ∧ ν.length = μ.length ∧ ∀ k, k ≠ i → k ≠ i + 1 → k ≠ i + 3 → k ≠ i + 4 → (∀ il, idO ln = some il → k ≠ il) → ν[k]? = μ[k]? := by
  obtain ⟨ν, h1, h2, h3⟩ := h.res
  refine ⟨ν, ?_, h2, h3⟩
  have hp : pack1 s.ps [.agg (wC i ln w), a] μ = some ([some w.enc, none], ν) := by
    rw [hps]; simp only [pack1, h1, Option.bind_some]
  have hq : pack2 (cond s.fresh ν []) s.ps [.agg (wC i ln w), a] [some w.enc, none] = some [w.enc, a] := by
    have := sn_cl ν s2 ha
    unfold Pv.sn at this
    rw [hps, hf]; simp only [pack2, cond_true, this, Option.bind_some]
  unfold cq nC
  simp only [hp, Option.bind_some]
  rw [hq]
  simp only [Option.bind_some, hf, true_or, if_true, hr]
  first | exact if_pos fun _ => hok | exact if_pos hok
theorem kl5_len (μ : PH) (a b c d e : Nat) : (kl (kl (kl (kl (kl μ a) b) c) d) e).length = μ.length := by simp only [kl_len]
end Go.Lg.Pv.Q
namespace Go.Lg.Pv.Q
open Go Go.Lg Go.Lg.Pv
set_option linter.unusedVariables false
set_option linter.unusedSimpArgs false
set_option maxRecDepth 100000

def wB (cs : List DV) : PB := ⟨0, shWin, [.agg cs], true, false, true⟩
theorem stB {μ : PH} {id j : Nat} {l : List Bool} {x : Bool} (hb : bk μ id 0 = some (boolB l)) (h : j < l.length) : qSt μ 1 (.ptr id 0 j 0) (.bool x) = some (μ.set id (boolB (l.set j x))) := by
  rw [qSt_ptr (size := 1) (cs := [.bool x]) hb (e := .bool l[j]) (by simp [boolB, h]) rfl (Nat.le_refl 1) rfl]
  simp only [boolB, List.map_set]
  rfl
theorem stTx {μ : PH} {id j : Nat} {l : List ByteArray} {x : ByteArray} (hb : bk μ id 0 = some (tB 0 l)) (h : j < l.length) : qSt μ 1 (.ptr id 0 j 0) (.str x) = some (μ.set id (tB 0 (l.set j x))) := by
  rw [qSt_ptr (size := 1) (cs := [.str x]) hb (e := .str l[j]) (by simp [tB, h]) rfl (Nat.le_refl 1) rfl]
  simp only [tB, List.map_set]
  rfl
theorem ia1 {μ : PH} {id n c : Nat} {b : PB} {k : Int} {kk : IntKind} (hb : bk μ id 0 = some b) (hs : b.sh.length = 1) (h0 : 0 ≤ k) (h1 : k < n) : qIA μ 1 (.own id 0 0 n c false) (.int kk k) = some (.ptr id 0 k.toNat 0) := by
  have := qIA_own (size := 1) (x := false) (c := c) (o := 0) (k := kk) hb (show k = (k.toNat : Int) by omega) (show k.toNat < n by omega) hs
  rw [Nat.zero_add] at this; exact this
theorem ldB {μ : PH} {id j : Nat} {l : List Bool} (hb : bk μ id 0 = some (boolB l)) (h : j < l.length) : qLd μ 1 false (.ptr id 0 j 0) = some (.bool (l.getD j false), μ) := by
  rw [getD_mem h]; exact qLd_ok hb (e := .bool l[j]) (by simp [boolB, h]) rfl rfl
theorem ldTx {μ : PH} {id j : Nat} {l : List ByteArray} (hb : bk μ id 0 = some (tB 0 l)) (h : j < l.length) : qLd μ 1 false (.ptr id 0 j 0) = some (.str (l.getD j ⟨#[]⟩), μ) := by
  rw [getD_mem h]; exact qLd_ok hb (e := .str l[j]) (by simp [tB, h]) rfl rfl
theorem bFrm (a : Bool) (b : Int) (s : ByteArray) : qBuild [.bool false, .int .i64 0, .str ⟨#[]⟩] [(0, 1, false), (1, 1, false), (2, 1, false)] [(1, .int .i64 b), (2, .str s)] = some (.agg [.bool false, .int .i64 b, .str s]) := rfl
theorem bFrmT (b : Int) : qBuild [.bool false, .int .i64 0, .str ⟨#[]⟩] [(0, 1, false), (1, 1, false), (2, 1, false)] [(0, .bool true), (1, .int .i64 b)] = some (.agg [.bool true, .int .i64 b, .str ⟨#[]⟩]) := rfl
theorem bsF (μ : PH) (a : Bool) (b : Int) (s : ByteArray) : qBS μ true [.sc, .sc, .sc] true [.bool false, .int .i64 0, .str ⟨#[]⟩] 3 1 [(0, .agg [.bool a, .int .i64 b, .str s])] = some (.sl shFrm [Frm.enc ⟨a, b, s⟩], μ) := rfl
theorem a3_frm {α : Type} (f : Frm) (k : DV → DV → DV → Option α) : a3 f.enc k = k (.bool f.back) (.int .i64 f.no) (.str f.text) := rfl
theorem fold_frm (f : Frm) : DV.agg [.bool f.back, .int .i64 f.no, .str f.text] = f.enc := rfl
theorem a7_wC {α : Type} (i : Nat) (ln : DV) (w : Win) (k : DV → DV → DV → DV → DV → DV → DV → Option α) : a7 (.agg (wC i ln w)) k = k (.own i 0 0 w.pieces.length w.pieces.length false) (.int .i64 w.size) (.own (i + 1) 0 0 w.heard.length w.heard.length false) ln (.own (i + 3) 0 0 w.held.length w.held.length false) (.own (i + 4) 0 0 w.has.length w.has.length false) (.int .i64 w.told) := rfl
theorem fold_wC (i : Nat) (ln : DV) (w : Win) : DV.agg [.own i 0 0 w.pieces.length w.pieces.length false, .int .i64 w.size, .own (i + 1) 0 0 w.heard.length w.heard.length false, ln, .own (i + 3) 0 0 w.held.length w.held.length false, .own (i + 4) 0 0 w.has.length w.has.length false, .int .i64 w.told] = .agg (wC i ln w) := rfl
theorem lenL {μ : PH} {ln : DV} {l : List Frm} (h : LN μ ln l) : qLen μ ln = some (.int .i64 l.length) := by
  cases h with
  | e0 => rfl
  | own il vl o m c bj _ hb hi hc => rw [qLen_own hb, hi.n]
theorem res1 {ν : PH} {i : Nat} {w : Win} {ln : DV} (h : WB ν i w ln) : ∃ ν', resO [shWin] [.agg (wC i ln w)] ν = some ([w.enc], ν') := by
  obtain ⟨ν', h1, _⟩ := h.res
  exact ⟨ν', by simp only [resO, h1, Option.bind_some]⟩
theorem res2 {ν : PH} {i : Nat} {w : Win} {ln : DV} (b : Bool) (h : WB ν i w ln) : ∃ ν', resO [shWin, [.sc]] [.agg (wC i ln w), .bool b] ν = some ([w.enc, .bool b], ν') := by
  obtain ⟨ν', h1, _⟩ := h.res
  exact ⟨ν', by simp only [resO, h1, Option.bind_some]; rfl⟩
/-- a frame behind the line of a window -/
theorem WB.push {μ : PH} {i : Nat} {w : Win} {il vl o m c : Nat} (h : WB μ i w (.own il vl o m c false)) (hl : w.line.length ≤ 1000) (f : Frm) :
    ∃ ln' b', qAp μ false [.sc, .sc, .sc] 3 32 (.own il vl o m c false) (.sl shFrm [f.enc]) = some (ln', μ.set il b') ∧ idO ln' = some il ∧ WB (μ.set il b') i { w with line := w.line ++ [f] } ln' ∧ ∃ v' o' c', ln' = .own il v' o' (m + 1) c' false := by
  have hn := h.ne il rfl
  have hl' := h.lna
  have hne := h.ne
  generalize hL : w.line = l at hl'
  cases hl' with
  | own _ _ _ _ _ bj _ hb hi hc =>
    have hm := hi.n
    obtain ⟨v', o', c', b', q1, q2, q3, q4⟩ := hi.push hb (z := 3) (by_ := 32) rfl hc (by decide) (by rw [hL] at hl; omega) (by rw [hL] at hl; omega) f rfl
    refine ⟨_, b', q1, rfl, ⟨?_, ?_, ?_, ?_, ?_, fun il' hi' => by cases hi'; exact hn⟩, v', o', c', rfl⟩
    · rw [bk_set_ne hn.1]; exact h.b0
    · rw [bk_set_ne hn.2.1]; exact h.b1
    · rw [bk_set_ne hn.2.2.1]; exact h.b3
    · rw [bk_set_ne hn.2.2.2]; exact h.b4
    · exact .own _ _ _ _ _ _ _ q2 q3 q4
theorem l9Write_run {N n : Nat} (w : Win) (f : Frm) (hl : w.line.length ≤ 30) : run1 S_spec_l9Write (qfn P N (n + 1) n_spec_l9Write) [w.enc, f.enc] = some ([(writeW w f).enc], []) := by
  have hwb : WB (wM w) 0 w (.own (0 + 2) 0 0 w.line.length w.line.length false) := WB.own rfl rfl rfl rfl rfl
  have hlen := lenL hwb.lna
  by_cases h : w.line.length < 30
  · obtain ⟨ln', b', q1, q2, q3, _⟩ := hwb.push (by omega) f
    obtain ⟨ν', hr⟩ := res1 q3
    have hw : writeW w f = { w with line := w.line ++ [f] } := by unfold writeW; rw [if_pos h]
    rw [hw]
    refine run1_mvW (s2 := shFrm) rfl rfl ?_ hr
    have hi : ((w.line.length : Nat) : Int) < 30 := by omega
    rw [spec_l9Write_eq, winOwn_wC]
    unfold P_spec_l9Write
    simp only [a7_wC, a3_frm, hlen, bd_some, qBin_lss, qB_bool, hi, decide_true, cond_true, bsF, b2_some]
    have hs : ∀ {α : Type} (q : Option α), s1 ln' q = q := by
      obtain ⟨v', o', c', hq⟩ := ‹∃ v' o' c', ln' = _›
      subst hq; intros; rfl
    have q1' : qAp (wM w) false [.sc, .sc, .sc] 3 32 (.own (0 + 2) 0 0 w.line.length w.line.length false) (.sl shFrm [Frm.enc ⟨f.back, f.no, f.text⟩]) = some (ln', (wM w).set (0 + 2) b') := q1
    rw [q1']
    simp only [b2_some, hs, a7_agg]
    rfl
  · obtain ⟨ν', hr⟩ := res1 hwb
    have hw : writeW w f = w := by unfold writeW; rw [if_neg h]
    rw [hw]
    refine run1_mvW (s2 := shFrm) rfl rfl ?_ hr
    have hi : ¬ ((w.line.length : Nat) : Int) < 30 := by omega
    rw [spec_l9Write_eq, winOwn_wC]
    unfold P_spec_l9Write
    simp only [a7_wC, a3_frm, hlen, bd_some, qBin_lss, qB_bool, hi, decide_false, cond_false, a7_agg]
    rfl
theorem l9Take_run {N n : Nat} (hN : 4294967296 ≤ N) (w : Win) (f : Frm) (h : WOk w) (hf : 0 ≤ f.no ∧ f.no < w.pieces.length) : run1 S_spec_l9Take (qfn P N (n + 2) n_spec_l9Take) [w.enc, f.enc] = some ([(takeW w f).enc], []) := by
  have hh1 := h.h1; have hh2 := h.h2; have hh3 := h.h3; have hn := h.n; have hll := h.l
  have hj : f.no.toNat < w.heard.length := by omega
  have hj3 : f.no.toNat < w.has.length := by omega
  have hj2 : f.no.toNat < w.held.length := by omega
  cases hb : f.back with
  | true =>
    have hw : takeW w f = { w with heard := w.heard.set f.no.toNat true } := by unfold takeW; rw [if_pos hb]
    rw [hw]
    have hwb : WB (wM { w with heard := w.heard.set f.no.toNat true }) 0 { w with heard := w.heard.set f.no.toNat true } (.own (0 + 2) 0 0 w.line.length w.line.length false) := WB.own rfl rfl rfl rfl rfl
    obtain ⟨ν', hr⟩ := res1 hwb
    refine run1_mvW (s2 := shFrm) rfl rfl ?_ hr
    rw [spec_l9Take_eq, winOwn_wC]
    unfold P_spec_l9Take
    have e1 := ia1 (μ := wM w) (id := 0 + 1) (n := w.heard.length) (c := w.heard.length) (b := boolB w.heard) (kk := .i64) rfl rfl hf.1 (by omega)
    have e2 := stB (μ := wM w) (id := 0 + 1) (x := true) rfl hj
    simp only [a7_wC, a3_frm, hb, qB_bool, cond_true, e1, bd_some, e2, a7_agg]
    simp only [wC, List.length_set]
    rfl
  | false =>
    have hw : takeW w f = writeW { w with has := w.has.set f.no.toNat true, held := w.held.set f.no.toNat f.text, told := ldT (w.has.set f.no.toNat true) } ⟨true, f.no, ⟨#[]⟩⟩ := by unfold takeW; rw [if_neg (by simp [hb])]
    rw [hw]
    have e1 := ia1 (μ := wM w) (id := 0 + 4) (n := w.has.length) (c := w.has.length) (b := boolB w.has) (kk := .i64) rfl rfl hf.1 (by omega)
    have e2 := stB (μ := wM w) (id := 0 + 4) (x := true) rfl hj3
    have e3 := ia1 (μ := (wM w).set (0 + 4) (boolB (w.has.set f.no.toNat true))) (id := 0 + 3) (n := w.held.length) (c := w.held.length) (b := tB 0 w.held) (kk := .i64) rfl rfl hf.1 (by omega)
    have e4 := stTx (μ := (wM w).set (0 + 4) (boolB (w.has.set f.no.toNat true))) (id := 0 + 3) (x := f.text) rfl hj2
    have hM : ((wM w).set (0 + 4) (boolB (w.has.set f.no.toNat true))).set (0 + 3) (tB 0 (w.held.set f.no.toNat f.text)) = wM { w with has := w.has.set f.no.toNat true, held := w.held.set f.no.toNat f.text, told := ldT (w.has.set f.no.toNat true) } := rfl
    rw [hM] at e4
    generalize hw2 : ({ w with has := w.has.set f.no.toNat true, held := w.held.set f.no.toNat f.text, told := ldT (w.has.set f.no.toNat true) } : Win) = w2 at e4 hM ⊢
    have hwb : WB (wM w2) 0 w2 (.own (0 + 2) 0 0 w.line.length w.line.length false) := by subst hw2; exact WB.own rfl rfl rfl rfl rfl
    have hll2 : w2.line.length ≤ 30 := by subst hw2; exact hll
    have hC : DV.agg [.own 0 0 0 w.pieces.length w.pieces.length false, .int .i64 w.size, .own (0 + 1) 0 0 w.heard.length w.heard.length false, .own (0 + 2) 0 0 w.line.length w.line.length false, .own (0 + 3) 0 0 w.held.length w.held.length false, .own (0 + 4) 0 0 w.has.length w.has.length false, .int .i64 (ldT (w.has.set f.no.toNat true))] = .agg (wC 0 (.own (0 + 2) 0 0 w.line.length w.line.length false) w2) := by
      subst hw2; simp only [wC, List.length_set]
    obtain ⟨ν, q1, q2, _⟩ := cq_mvW (s := S_spec_l9Write) (s2 := shFrm) (a := Frm.enc ⟨true, f.no, ⟨#[]⟩⟩) rfl rfl rfl hwb (l9Write_run (N := N) (n := n) w2 ⟨true, f.no, ⟨#[]⟩⟩ hll2) rfl
    generalize hw3 : writeW w2 ⟨true, f.no, ⟨#[]⟩⟩ = w3 at q1 ⊢
    rw [adL_w] at q1
    have ht := told_ok (N := N) (n := n) hN (w.has.set f.no.toNat true) (by rw [List.length_set]; omega) (μ := wM w2) (args := [.own (0 + 4) 0 0 w.has.length w.has.length false]) (by
      have : bk (wM w2) (0 + 4) 0 = some (boolB (w.has.set f.no.toNat true)) := by subst hw2; rfl
      simp only [sns, S_spec_l9Told]
      rw [snBool this rfl rfl (by rw [List.length_set])]; rfl)
    obtain ⟨ν', hr⟩ := res1 (WB.app ν w3)
    refine run1_mvW (s2 := shFrm) rfl rfl ?_ hr
    rw [spec_l9Take_eq, winOwn_wC]
    unfold P_spec_l9Take
    simp only [a7_wC, a3_frm, hb, qB_bool, cond_false, e1, bd_some, e2, e3, e4, ht, c1_some, u1_list, s1_int, bFrmT, hC]
    have q1' : cq S_spec_l9Write (qfn P N (n + 1) n_spec_l9Write) [.agg (wC 0 (.own (0 + 2) 0 0 w.line.length w.line.length false) w2), .agg [.bool true, .int .i64 f.no, .str ⟨#[]⟩]] (wM w2) = _ := q1
    rw [q1']
    rfl
end Go.Lg.Pv.Q
namespace Go.Lg.Pv.Q
open Go Go.Lg Go.Lg.Pv
set_option linter.unusedVariables false
set_option linter.unusedSimpArgs false
set_option maxRecDepth 100000

def wZ : List DV := [.sl [.sc] [], .int .i64 0, .sl [.sc] [], .sl shFrm [], .sl [.sc] [], .sl [.sc] [], .int .i64 0]
theorem alW (μ : PH) : qAl μ false [.sl [.sc], .sc, .sl [.sc], .sl [.sc, .sc, .sc], .sl [.sc], .sl [.sc], .sc] true [.nil, .int .i64 0, .nil, .nil, .nil, .nil, .int .i64 0] = some (.ptr μ.length 0 0 0, μ ++ [wB wZ]) := rfl
theorem bk_wB {μ : PH} {p : Nat} {a b : List DV} (h : bk μ p 0 = some (wB a)) : bk (μ.set p (wB b)) p 0 = some (wB b) := bk_set (μ := μ) (b := wB b) (bk_lt h) rfl
theorem WB.mono {μ μ' : PH} {i : Nat} {w : Win} {ln : DV} (h : WB μ i w ln) (he : ∀ k ver, (k = i ∨ k = i + 1 ∨ k = i + 3 ∨ k = i + 4 ∨ idO ln = some k) → bk μ' k ver = bk μ k ver) : WB μ' i w ln := by
  refine ⟨(he _ _ (.inl rfl)).trans h.b0, (he _ _ (.inr (.inl rfl))).trans h.b1, (he _ _ (.inr (.inr (.inl rfl)))).trans h.b3, (he _ _ (.inr (.inr (.inr (.inl rfl))))).trans h.b4, ?_, h.ne⟩
  have hl := h.lna
  generalize w.line = l at hl
  cases hl with
  | e0 => exact .e0
  | own il vl o m c bj _ hb hi hc => exact .own _ _ _ _ _ _ _ ((he _ _ (.inr (.inr (.inr (.inr rfl))))).trans hb) hi hc
/-- a window laid into a block of its own, and read -/
theorem stld {μ : PH} {p i : Nat} {w : Win} {ln : DV} {cs : List DV} (hp : bk μ p 0 = some (wB cs)) (hc : cs.length = 7) (h : WB μ i w ln) (hpi : p ≠ i ∧ p ≠ i + 1 ∧ p ≠ i + 3 ∧ p ≠ i + 4) (hpl : ∀ il, idO ln = some il → il ≠ p) :
    ∃ μ1 ln' μ', qSt μ 7 (.ptr p 0 0 0) (.agg (wC i ln w)) = some μ1 ∧ qLd μ1 7 true (.ptr p 0 0 0) = some (.agg (wC i ln' w), μ') ∧ WB μ' i w ln' := by
  obtain ⟨n0, n1, n3, n4⟩ := hpi
  have hl := h.lna
  have hne := h.ne
  cases hln : ln with
  | own il vl o m c x =>
    subst hln
    have hx : x = false := by
      generalize w.line = l at hl
      cases hl; rfl
    subst hx
    have e1 : qSt μ 7 (.ptr p 0 0 0) (.agg (wC i (.own il vl o m c false) w)) = some (μ.set p (wB (wC i (.own il vl o m c false) w))) := by
      rw [qSt_ptr (size := 7) (cs := wC i (.own il vl o m c false) w) hp (e := .agg cs) rfl rfl (by rw [cellsD_agg, hc]; decide) rfl]
      match cs, hc with
      | [a, b, c, d, e, f, g], _ => rfl
    refine ⟨_, .own il vl o m c false, _, e1, qLd_ok (bk_wB hp) (e := .agg (wC i (.own il vl o m c false) w)) rfl rfl rfl, h.mono fun k ver hk => bk_set_ne ?_⟩
    rcases hk with rfl | rfl | rfl | rfl | hk
    · exact n0
    · exact n1
    · exact n3
    · exact n4
    · exact (hpl k hk).symm
  | e0 z =>
    subst hln
    obtain ⟨hz, hw⟩ : z = 3 ∧ w.line = [] := by
      generalize w.line = l at hl
      cases hl; exact ⟨rfl, rfl⟩
    subst hz
    have e1 : qSt μ 7 (.ptr p 0 0 0) (.agg (wC i (.e0 3) w)) = some (μ.set p (wB (wC i (.sl shFrm []) w))) := by
      rw [qSt_ptr (size := 7) (cs := wC i (.sl shFrm []) w) hp (e := .agg cs) rfl rfl (by rw [cellsD_agg, hc]; decide) rfl]
      match cs, hc with
      | [a, b, c, d, e, f, g], _ => rfl
    generalize hμ1 : μ.set p (wB (wC i (.sl shFrm []) w)) = μ1 at e1
    have hb1 : bk μ1 p 0 = some (wB (wC i (.sl shFrm []) w)) := by subst hμ1; exact bk_wB hp
    have hpl1 := bk_lt hb1
    have e2 : qLd μ1 7 true (.ptr p 0 0 0) = some (.agg (wC i (.own μ1.length 0 0 0 0 false) w), (μ1 ++ [(⟨0, shFrm, [], true, false, true⟩ : PB)]).set p (wB (wC i (.own μ1.length 0 0 0 0 false) w))) := by
      have he : (wB (wC i (.sl shFrm []) w)).el[0]? = some (.agg (wC i (.sl shFrm []) w)) := rfl
      have hk : (((cellsD (.agg (wC i (.sl shFrm []) w))).drop 0).take 7).all okC = false := rfl
      have hk2 : (((cellsD (.agg (wC i (.sl shFrm []) w))).drop 0).take 7).all (fun c => okC c || isSl c) = true := rfl
      simp only [qLd, hb1, Option.bind_some, he, hk, hk2]
      rfl
    have hold : ∀ k ver, k < μ1.length → k ≠ p → bk ((μ1 ++ [(⟨0, shFrm, [], true, false, true⟩ : PB)]).set p (wB (wC i (.own μ1.length 0 0 0 0 false) w))) k ver = bk μ k ver := fun k ver hk hkp => by
      rw [bk_set_ne (Ne.symm hkp)]
      unfold bk
      rw [List.getElem?_append_left hk, ← hμ1, List.getElem?_set_ne (Ne.symm hkp)]
    have hlen : μ1.length = μ.length := by subst hμ1; rw [List.length_set]
    refine ⟨μ1, .own μ1.length 0 0 0 0 false, _, e1, e2, ?_, ?_, ?_, ?_, ?_, ?_⟩
    · rw [hold i 0 (by rw [hlen]; exact bk_lt h.b0) (Ne.symm n0)]; exact h.b0
    · rw [hold (i + 1) 0 (by rw [hlen]; exact bk_lt h.b1) (Ne.symm n1)]; exact h.b1
    · rw [hold (i + 3) 0 (by rw [hlen]; exact bk_lt h.b3) (Ne.symm n3)]; exact h.b3
    · rw [hold (i + 4) 0 (by rw [hlen]; exact bk_lt h.b4) (Ne.symm n4)]; exact h.b4
    · rw [hw]
      refine .own _ _ _ _ _ ⟨0, shFrm, [], true, false, true⟩ _ ?_ ⟨rfl, rfl, rfl, rfl, by simp⟩ (Nat.le_refl _)
      rw [bk_set_ne (by omega)]
      simp [bk]
    · intro il hi
      cases hi
      have q0 := bk_lt h.b0; have q1 := bk_lt h.b1; have q3 := bk_lt h.b3; have q4 := bk_lt h.b4
      omega
  | _ => subst hln; exfalso; generalize w.line = l at hl; cases hl
/-- the end of each of a step's ways -/
theorem stepFin {μ : PH} {p i : Nat} {w : Win} {ln : DV} {cs : List DV} (b : Bool) (hp : bk μ p 0 = some (wB cs)) (hc : cs.length = 7) (h : WB μ i w ln) (hpi : p ≠ i ∧ p ≠ i + 1 ∧ p ≠ i + 3 ∧ p ≠ i + 4) (hpl : ∀ il, idO ln = some il → il ≠ p) :
    ∃ r, (bd (qSt μ 7 (.ptr p 0 0 0) (.agg (wC i ln w))) fun s => b2 (qLd s 7 true (.ptr p 0 0 0)) fun v s' => some ([v, .bool b], s')) = some r ∧ ∃ ν', resO [shWin, [.sc]] r.1 r.2 = some ([w.enc, .bool b], ν') := by
  obtain ⟨μ1, ln', μ', q1, q2, q3⟩ := stld hp hc h hpi hpl
  obtain ⟨ν', hr⟩ := res2 b q3
  exact ⟨([.agg (wC i ln' w), .bool b], μ'), by simp only [q1, bd_some, q2, b2_some], ν', hr⟩
theorem run1_mvX {s : Sig} {core : List DV → PH → RD} {w : Win} {a : DV} {s2 : List Sh} {res : List DV} (hps : s.ps = [(.move, shWin), (.snap, s2)]) (hf : s.fresh = true) (h : ∃ r, core [winOwn 0 w, a] (wM w) = some r ∧ ∃ ν', resO s.rs r.1 r.2 = some (res, ν')) :
    run1 s core [w.enc, a] = some (res, []) := by
  obtain ⟨⟨r, ν⟩, h1, ν', h2⟩ := h
  exact run1_mvW hps hf h1 h2
theorem a2_wst {α : Type} (s : WStep) (k : DV → DV → Option α) : a2 s.enc k = k (.int .i64 s.kind) (.int .i64 s.k) := rfl
theorem ld3f {μ : PH} {id : Nat} {l : List Frm} {k : Int} {n c : Nat} (hb : bk μ id 0 = some (frmB l)) (h0 : 0 ≤ k) (h1 : k < l.length) (hn : n = l.length) : qIA μ 3 (.own id 0 0 n c false) (.int .i64 k) = some (.ptr id 0 k.toNat 0) ∧ qLd μ 3 true (.ptr id 0 k.toNat 0) = some ((l.getD k.toNat frm0).enc, μ) := by
  subst hn
  constructor
  · have := qIA_own (size := 3) (x := false) (c := c) (o := 0) (k := .i64) hb (show k = (k.toNat : Int) by omega) (show k.toNat < l.length by omega) rfl
    rw [Nat.zero_add] at this; exact this
  · rw [getD_mem (by omega)]
    exact qLd_ok hb (e := l[k.toNat].enc) (by simp [frmB, show k.toNat < l.length by omega]) rfl rfl
theorem l9Step_run {N n : Nat} (hN : 4294967296 ≤ N) (w : Win) (s : WStep) (h : WOk w) : run1 S_spec_l9Step (qfn P N (n + 3) n_spec_l9Step) [w.enc, s.enc] = some ([(stepW w s).1.enc, .bool (stepW w s).2], []) := by
  have hh1 := h.h1; have hh2 := h.h2; have hh3 := h.h3; have hn := h.n; have hll := h.l; have hs0 := h.s0; have hs1 := h.s1
  have hlt := ldT_le w.heard
  generalize hμ : wM w ++ [wB wZ] = μ
  have hwb : WB μ 0 w (.own (0 + 2) 0 0 w.line.length w.line.length false) := by subst hμ; exact WB.own rfl rfl rfl rfl rfl
  have hp : bk μ 5 0 = some (wB wZ) := by subst hμ; rfl
  have hbl : bk μ (0 + 2) 0 = some (frmB w.line) := by subst hμ; rfl
  have hbh : bk μ (0 + 1) 0 = some (boolB w.heard) := by subst hμ; rfl
  have hbp : bk μ 0 0 = some (tB 0 w.pieces) := by subst hμ; rfl
  have hlen := lenL hwb.lna
  have hlp : qLen μ (.own 0 0 0 w.pieces.length w.pieces.length false) = some (.int .i64 w.pieces.length) := qLen_own hbp
  have hml : μ.length = 6 := by subst hμ; rfl
  have stay : ∀ b, ∃ r, (bd (qSt μ 7 (.ptr 5 0 0 0) (.agg (wC 0 (.own (0 + 2) 0 0 w.line.length w.line.length false) w))) fun s => b2 (qLd s 7 true (.ptr 5 0 0 0)) fun v s' => some ([v, .bool b], s')) = some r ∧ ∃ ν', resO [shWin, [.sc]] r.1 r.2 = some ([w.enc, .bool b], ν') := fun b =>
    stepFin b hp rfl hwb (by decide) (fun il hi => by cases hi; decide)
  have wr : ∀ (i : Nat) (w1 : Win) (ln : DV) (μ1 : PH) (f : Frm), WB μ1 i w1 ln → bk μ1 5 0 = some (wB wZ) → 6 ≤ μ1.length → (5 ≠ i ∧ 5 ≠ i + 1 ∧ 5 ≠ i + 3 ∧ 5 ≠ i + 4) → (∀ il, idO ln = some il → 5 ≠ il) → w1.line.length ≤ 30 →
      ∃ r, (c1 (cq S_spec_l9Write (qfn P N (n + 2) n_spec_l9Write) [.agg (wC i ln w1), f.enc] μ1) fun v s => bd (qSt s 7 (.ptr 5 0 0 0) v) fun s => b2 (qLd s 7 true (.ptr 5 0 0 0)) fun v s' => some ([v, .bool true], s')) = some r ∧ ∃ ν', resO [shWin, [.sc]] r.1 r.2 = some ([(writeW w1 f).enc, .bool true], ν') := fun i w1 ln μ1 f hw1 hp1 hl1 hi hil hln => by
    obtain ⟨ν, q1, q2, q3⟩ := cq_mvW (s := S_spec_l9Write) (s2 := shFrm) rfl rfl (Frm.cl f) hw1 (l9Write_run (N := N) (n := n + 1) w1 f hln) rfl
    rw [adL_w] at q1
    have hp2 : bk (ν ++ wM (writeW w1 f)) 5 0 = some (wB wZ) := by
      unfold bk; rw [List.getElem?_append_left (by omega), q3 5 hi.1 hi.2.1 hi.2.2.1 hi.2.2.2 hil]; exact hp1
    have := stepFin true hp2 rfl (WB.app ν (writeW w1 f)) (by omega) (fun il hi => by cases hi; omega)
    rw [q1]
    exact this
  refine run1_mvX (s2 := [.sc, .sc]) rfl rfl ?_
  rw [spec_l9Step_eq, winOwn_wC]
  unfold P_spec_l9Step
  have hal := alW (wM w)
  rw [show (wM w).length = 5 from rfl, hμ] at hal
  have ht := told_ok (N := N) (n := n + 1) hN w.heard (by omega) (μ := μ) (args := [.own (0 + 1) 0 0 w.heard.length w.heard.length false]) (by
    simp only [sns, S_spec_l9Told]; rw [snBool hbh rfl rfl rfl]; rfl)
  simp only [a7_wC, a2_wst, hal, b2_some, qBin_eql, bd_some, qB_bool]
  unfold stepW
  by_cases hk1 : s.kind = 1
  · rw [if_pos hk1]
    simp only [hk1, decide_true, cond_true, ht, c1_some, u1_list, qBin_lss, bd_some, qB_bool]
    by_cases c1' : s.k < ldT w.heard
    · have hc : canW w s.k = false := by unfold canW; simp [show ¬ ((ldT w.heard : Int) ≤ s.k) by omega]
      rw [if_neg (by simp [hc])]
      simp only [c1', decide_true, cond_true]
      exact stay false
    simp only [c1', decide_false, cond_false, hlp, bd_some, qBin_geq, qB_bool]
    by_cases c2' : s.k ≥ w.pieces.length
    · have hc : canW w s.k = false := by unfold canW; simp [show ¬ (s.k < (w.pieces.length : Int)) by omega]
      rw [if_neg (by simp [hc])]
      simp only [c2', decide_true, cond_true]
      exact stay false
    simp only [c2', decide_false, cond_false, qBin_add, bd_some, qBin_geq, qB_bool]
    rw [wrapI (n := (ldT w.heard : Int) + w.size) (by constructor <;> omega)]
    by_cases c3' : s.k ≥ ldT w.heard + w.size
    · have hc : canW w s.k = false := by unfold canW; simp [show ¬ (s.k < (ldT w.heard : Int) + w.size) by omega]
      rw [if_neg (by simp [hc])]
      simp only [c3', decide_true, cond_true]
      exact stay false
    have e1 := ia1 (n := w.heard.length) (c := w.heard.length) (kk := .i64) (k := s.k) hbh rfl (by omega) (by omega)
    have e2 := ldB (j := s.k.toNat) hbh (by omega)
    simp only [c3', decide_false, cond_false, e1, bd_some, e2, b2_some, qB_bool]
    cases c4' : w.heard.getD s.k.toNat false with
    | true =>
      have hc : canW w s.k = false := by unfold canW; rw [c4']; simp
      rw [if_neg (by simp [hc])]
      simp only [cond_true]
      exact stay false
    | false =>
      have hc : canW w s.k = true := by unfold canW; rw [c4']; simp; omega
      rw [if_pos hc]
      have e3 := ia1 (n := w.pieces.length) (c := w.pieces.length) (kk := .i64) (k := s.k) hbp rfl (by omega) (by omega)
      have e4 := ldTx (j := s.k.toNat) hbp (by omega)
      simp only [cond_false, e3, bd_some, e4, b2_some, bFrm false]
      exact wr 0 w _ μ ⟨false, s.k, w.pieces.getD s.k.toNat ⟨#[]⟩⟩ hwb hp (by omega) (by decide) (fun il hi => by cases hi; decide) hll
  · rw [if_neg hk1]
    simp only [hk1, decide_false, cond_false, qBin_lss, bd_some, qB_bool]
    by_cases c1' : s.k < 0
    · rw [if_neg (by omega)]
      simp only [c1', decide_true, cond_true]
      exact stay false
    simp only [c1', decide_false, cond_false, hlen, bd_some, qBin_geq, qB_bool]
    by_cases c2' : s.k ≥ w.line.length
    · rw [if_neg (by omega)]
      simp only [c2', decide_true, cond_true]
      exact stay false
    simp only [c2', decide_false, cond_false, l1In_ok, c1_some, u1_list, qUn_not, bd_some, qB_bool]
    by_cases c3' : 2 ≤ s.kind ∧ s.kind ≤ 4
    · have hkb : (decide (2 ≤ s.kind) && decide (s.kind ≤ 4)) = true := by simp [c3']
      rw [if_pos ⟨by omega, by omega, c3'⟩]
      obtain ⟨e1, e2⟩ := ld3f (k := s.k) (c := w.line.length) (n := w.line.length) hbl (by omega) (by omega) rfl
      have hf := h.f (w.line.getD s.k.toNat frm0) (by rw [getD_mem (by omega)]; exact List.getElem_mem _)
      generalize hfe : w.line.getD s.k.toNat frm0 = f at e2 hf ⊢
      simp only [hkb, Bool.not_true, cond_false, e1, bd_some, e2, b2_some, a3_frm, qBin_eql, qB_bool]
      by_cases c4' : s.kind = 4
      · rw [if_pos c4']
        simp only [c4', decide_true, cond_true, hlen, bd_some, qBin_eql, qB_bool]
        by_cases c5' : w.line.length = 30
        · have : ((w.line.length : Nat) : Int) = 30 := by omega
          rw [if_pos c5']
          simp only [this, decide_true, cond_true]
          exact stay false
        · have : ¬ ((w.line.length : Nat) : Int) = 30 := by omega
          rw [if_neg c5']
          simp only [this, decide_false, cond_false]
          exact wr 0 w _ μ f hwb hp (by omega) (by decide) (fun il hi => by cases hi; decide) hll
      · rw [if_neg c4']
        have hbs : qBS μ false [.sc, .sc, .sc] true [.bool false, .int .i64 0, .str ⟨#[]⟩] 3 0 [] = some (.e0 3, μ) := rfl
        have hsl := xSl_hi (x := false) (o := 0) (n := w.line.length) (c := w.line.length) (z := 3) (kk := .i64) (k := s.k) hbl rfl (by omega) (by omega) (Nat.le_refl _)
        obtain ⟨y, M, y2, M2, q1, q2, q3, q4, q5⟩ := qAp_two (sh := shFrm) (by_ := 32) (z := 3) (x := false) (x2 := false) (o := 0) (n := s.k.toNat) (c := w.line.length) (o2 := 0 + (s.k + 1).toNat) (n2 := w.line.length - (s.k + 1).toNat) (c2 := w.line.length - (s.k + 1).toNat) (L := (w.line.take s.k.toNat).map Frm.enc) (L2 := (w.line.drop (s.k.toNat + 1)).map Frm.enc) hbl rfl
          (by simp [frmB, List.map_take]) (by
            simp only [frmB, List.map_drop, Nat.zero_add, show (s.k + 1).toNat = s.k.toNat + 1 by omega]
            exact List.take_of_length_le (by simp)) rfl (flatL_map (fun _ => rfl) _) (flatL_map (fun _ => rfl) _) (by simp only [List.length_map, List.length_take, List.length_drop]; omega) (by decide) (by simp only [List.length_map, List.length_take, List.length_drop]; omega)
        have hE : (w.line.take s.k.toNat).map Frm.enc ++ (w.line.drop (s.k.toNat + 1)).map Frm.enc = (w.line.eraseIdx s.k.toNat).map Frm.enc := by
          rw [← List.map_append, List.eraseIdx_eq_take_drop_succ]
        rw [hE] at q5
        have hsl2 := xSl_lo (x := false) (o := 0) (n := w.line.length) (c := w.line.length) (z := 3) (kk := .i64) (k := s.k + 1) ((q4 (0 + 2) 0 (by omega)).trans hbl) rfl (by omega) (by omega)
        have hw1 : WB M2 0 { w with line := w.line.eraseIdx s.k.toNat } y2 ∧ bk M2 5 0 = some (wB wZ) ∧ 6 ≤ M2.length ∧ (∀ il, idO y2 = some il → 5 ≠ il) ∧ (∀ {α : Type} (q : Option α), s1 y2 q = q) := by
          rcases q5 with ⟨g1, rfl, rfl⟩ | ⟨g1, v, rfl, rfl⟩
          · refine ⟨⟨hwb.b0, hwb.b1, hwb.b3, hwb.b4, ?_, (fun il hi => by cases hi)⟩, hp, by omega, (fun il hi => by cases hi), fun _ => rfl⟩
            have : w.line.eraseIdx s.k.toNat = [] := List.map_eq_nil_iff.1 g1
            show LN _ _ (w.line.eraseIdx s.k.toNat)
            rw [this]; exact .e0
          · have ho : ∀ k ver, k < 6 → bk (μ ++ [(⟨v, shFrm, (w.line.eraseIdx s.k.toNat).map Frm.enc, true, false, true⟩ : PB)]) k ver = bk μ k ver := fun k ver hk => by unfold bk; rw [List.getElem?_append_left (by omega)]
            refine ⟨⟨(ho _ _ (by decide)).trans hwb.b0, (ho _ _ (by decide)).trans hwb.b1, (ho _ _ (by decide)).trans hwb.b3, (ho _ _ (by decide)).trans hwb.b4, ?_, fun il hi => by cases hi; omega⟩, (ho _ _ (by decide)).trans hp, by simp; omega, fun il hi => by cases hi; omega, fun _ => rfl⟩
            rw [List.length_map]
            exact .own _ _ _ _ _ ⟨v, shFrm, (w.line.eraseIdx s.k.toNat).map Frm.enc, true, false, true⟩ _ (by simp [bk]) ⟨rfl, rfl, rfl, by rw [List.drop_zero]; exact List.take_of_length_le (by simp), by simp⟩ (Nat.le_refl _)
        obtain ⟨hw1, hp2, hl2, hil2, hs1'⟩ := hw1
        have hadd : qBin M (.int .i64) .add (.int .i64 s.k) (.int .i64 1) = some (.int .i64 (s.k + 1)) := by rw [qBin_add]; rw [wrapI (n := s.k + 1) (by constructor <;> omega)]
        simp only [c4', decide_false, cond_false, hbs, b2_some, hsl, bd_some, q1, hadd, hsl2, q2, hs1', qBin_eql, qB_bool]
        by_cases c5' : s.kind = 2
        · rw [if_pos c5']
          simp only [c5', decide_true, cond_true]
          have hw1k := erase_ok h s.k.toNat
          obtain ⟨ν, r1, r2, r3⟩ := cq_mvW (s := S_spec_l9Take) (s2 := shFrm) rfl rfl (Frm.cl f) hw1 (l9Take_run (N := N) (n := n) hN _ f hw1k hf) rfl
          rw [adL_w] at r1
          have hp3 : bk (ν ++ wM (takeW { w with line := w.line.eraseIdx s.k.toNat } f)) 5 0 = some (wB wZ) := by
            unfold bk; rw [List.getElem?_append_left (by omega), r3 5 (by decide) (by decide) (by decide) (by decide) hil2]; exact hp2
          have := stepFin true hp3 rfl (WB.app ν (takeW { w with line := w.line.eraseIdx s.k.toNat } f)) (by omega) (fun il hi => by cases hi; omega)
          have r1' : cq S_spec_l9Take (qfn P N (n + 2) n_spec_l9Take) [.agg (wC 0 y2 w), .agg [.bool f.back, .int .i64 f.no, .str f.text]] M2 = _ := r1
          have hfc := fold_wC 0 y2 w
          rw [hfc, r1']
          exact this
        · rw [if_neg c5']
          simp only [c5', decide_false, cond_false]
          exact stepFin true hp2 rfl hw1 (by decide) (fun il hi => (hil2 il hi).symm)
    · have hkb : (decide (2 ≤ s.kind) && decide (s.kind ≤ 4)) = false := by
        by_cases g1 : 2 ≤ s.kind <;> by_cases g2 : s.kind ≤ 4 <;> simp [g1, g2]
        exact c3' ⟨g1, g2⟩
      rw [if_neg (by omega)]
      simp only [hkb, Bool.not_false, cond_true]
      exact stay false
end Go.Lg.Pv.Q
namespace Go.Lg.Pv.Q
open Go Go.Lg Go.Lg.Pv
set_option linter.unusedVariables false
set_option linter.unusedSimpArgs false
set_option maxRecDepth 100000

/-- a window at pointer 5 -/
structure WS (μ : PH) (w : Win) (cell : DV) : Prop where
  st : bk μ 5 0 = some (wB (wC 0 cell w))
  or_ : (cell = .sl shFrm [] ∧ WB μ 0 w (.e0 3)) ∨ (WB μ 0 w cell ∧ ∃ il vl o m c, cell = .own il vl o m c false ∧ il ≠ 5)
theorem WS.b0 {μ : PH} {w : Win} {cell : DV} (h : WS μ w cell) : bk μ 0 0 = some (tB 0 w.pieces) := by rcases h.or_ with ⟨_, h⟩ | ⟨h, _⟩ <;> exact h.b0
theorem WS.b1 {μ : PH} {w : Win} {cell : DV} (h : WS μ w cell) : bk μ (0 + 1) 0 = some (boolB w.heard) := by rcases h.or_ with ⟨_, h⟩ | ⟨h, _⟩ <;> exact h.b1
theorem WS.b3 {μ : PH} {w : Win} {cell : DV} (h : WS μ w cell) : bk μ (0 + 3) 0 = some (tB 0 w.held) := by rcases h.or_ with ⟨_, h⟩ | ⟨h, _⟩ <;> exact h.b3
theorem WS.b4 {μ : PH} {w : Win} {cell : DV} (h : WS μ w cell) : bk μ (0 + 4) 0 = some (boolB w.has) := by rcases h.or_ with ⟨_, h⟩ | ⟨h, _⟩ <;> exact h.b4
/-- what stays, of memory and of the line's block -/
structure Fw (μ μ' : PH) (cell cell' : DV) : Prop where
  len : μ.length ≤ μ'.length
  eq : ∀ k, k < μ.length → k ≠ 0 → k ≠ 1 → k ≠ 3 → k ≠ 4 → k ≠ 5 → idO cell ≠ some k → μ'[k]? = μ[k]?
  id : ∀ il, idO cell' = some il → idO cell = some il ∨ μ.length ≤ il
theorem Fw.refl (μ : PH) (cell : DV) : Fw μ μ cell cell := ⟨Nat.le_refl _, fun _ _ _ _ _ _ _ _ => rfl, fun _ h => .inl h⟩
theorem Fw.trans {a b c : PH} {x y z : DV} (h : Fw a b x y) (k : Fw b c y z) : Fw a c x z :=
  ⟨Nat.le_trans h.len k.len, fun j hj h0 h1 h3 h4 h5 hi => (k.eq j (Nat.lt_of_lt_of_le hj h.len) h0 h1 h3 h4 h5 (fun e => (h.id j e).elim hi (fun g => by omega))).trans (h.eq j hj h0 h1 h3 h4 h5 hi),
   fun il hi => (k.id il hi).elim (fun g => h.id il g) (fun g => .inr (Nat.le_trans h.len g))⟩
theorem Fw.set {a b : PH} {x y : DV} (h : Fw a b x y) {j : Nat} {blk : PB} (hj : j = 0 ∨ j = 1 ∨ j = 3 ∨ j = 4 ∨ j = 5 ∨ (idO x = some j ∨ a.length ≤ j)) : Fw a (b.set j blk) x y :=
  ⟨by rw [List.length_set]; exact h.len, fun k hk h0 h1 h3 h4 h5 hi => by
    have hne : j ≠ k := by
      rcases hj with rfl | rfl | rfl | rfl | rfl | (g | g)
      · exact Ne.symm h0
      · exact Ne.symm h1
      · exact Ne.symm h3
      · exact Ne.symm h4
      · exact Ne.symm h5
      · exact fun e => hi (by rw [← e]; exact g)
      · omega
    rw [List.getElem?_set_ne hne]; exact h.eq k hk h0 h1 h3 h4 h5 hi, h.id⟩
theorem WS.ld {μ : PH} {w : Win} {cell : DV} (h : WS μ w cell) :
    qLd μ 1 false (.ptr 5 0 0 0) = some (.own 0 0 0 w.pieces.length w.pieces.length false, μ) ∧ qLd μ 1 false (.ptr 5 0 0 1) = some (.int .i64 w.size, μ) ∧ qLd μ 1 false (.ptr 5 0 0 2) = some (.own (0 + 1) 0 0 w.heard.length w.heard.length false, μ) ∧
    qLd μ 1 false (.ptr 5 0 0 4) = some (.own (0 + 3) 0 0 w.held.length w.held.length false, μ) ∧ qLd μ 1 false (.ptr 5 0 0 5) = some (.own (0 + 4) 0 0 w.has.length w.has.length false, μ) :=
  ⟨qLd_ok h.st (e := .agg (wC 0 cell w)) rfl rfl rfl, qLd_ok h.st (e := .agg (wC 0 cell w)) rfl rfl rfl, qLd_ok h.st (e := .agg (wC 0 cell w)) rfl rfl rfl, qLd_ok h.st (e := .agg (wC 0 cell w)) rfl rfl rfl, qLd_ok h.st (e := .agg (wC 0 cell w)) rfl rfl rfl⟩
theorem WS.ldLine {μ : PH} {w : Win} {cell : DV} (h : WS μ w cell) : ∃ il vl o m c μ', qLd μ 1 false (.ptr 5 0 0 3) = some (.own il vl o m c false, μ') ∧ WS μ' w (.own il vl o m c false) ∧ Fw μ μ' cell (.own il vl o m c false) := by
  rcases h.or_ with ⟨rfl, hw⟩ | ⟨hw, il, vl, o, m, c, rfl, h5⟩
  · have hb := h.st
    have hpl := bk_lt hb
    have hline : w.line = [] := by
      have hl := hw.lna
      generalize w.line = l at hl
      cases hl; rfl
    have e2 : qLd μ 1 false (.ptr 5 0 0 3) = some (.own μ.length 0 0 0 0 false, (μ ++ [(⟨0, shFrm, [], true, false, true⟩ : PB)]).set 5 (wB (wC 0 (.own μ.length 0 0 0 0 false) w))) := by
      have he : (wB (wC 0 (.sl shFrm []) w)).el[0]? = some (.agg (wC 0 (.sl shFrm []) w)) := rfl
      have hk : (((cellsD (.agg (wC 0 (.sl shFrm []) w))).drop 3).take 1).all okC = false := rfl
      have hk2 : (((cellsD (.agg (wC 0 (.sl shFrm []) w))).drop 3).take 1).all (fun c => okC c || isSl c) = true := rfl
      simp only [qLd, hb, Option.bind_some, he, hk, hk2]
      rfl
    have hold : ∀ k ver, k < μ.length → k ≠ 5 → bk ((μ ++ [(⟨0, shFrm, [], true, false, true⟩ : PB)]).set 5 (wB (wC 0 (.own μ.length 0 0 0 0 false) w))) k ver = bk μ k ver := fun k ver hk hkp => by
      rw [bk_set_ne (Ne.symm hkp)]
      unfold bk
      rw [List.getElem?_append_left hk]
    refine ⟨μ.length, 0, 0, 0, 0, _, e2, ⟨bk_set (b := wB (wC 0 (.own μ.length 0 0 0 0 false) w)) (by rw [List.length_append]; omega) rfl, .inr ⟨⟨?_, ?_, ?_, ?_, ?_, ?_⟩, _, _, _, _, _, rfl, by omega⟩⟩, ⟨by rw [List.length_set, List.length_append]; omega, fun k hk _ _ _ _ h5 _ => ?_, fun il hi => by cases hi; exact .inr (Nat.le_refl _)⟩⟩
    · rw [hold 0 0 (bk_lt hw.b0) (by decide)]; exact hw.b0
    · rw [hold (0 + 1) 0 (bk_lt hw.b1) (by decide)]; exact hw.b1
    · rw [hold (0 + 3) 0 (bk_lt hw.b3) (by decide)]; exact hw.b3
    · rw [hold (0 + 4) 0 (bk_lt hw.b4) (by decide)]; exact hw.b4
    · rw [hline]
      refine .own _ _ _ _ _ ⟨0, shFrm, [], true, false, true⟩ _ ?_ ⟨rfl, rfl, rfl, rfl, by simp⟩ (Nat.le_refl _)
      rw [bk_set_ne (by omega)]
      simp [bk]
    · intro il hi
      cases hi
      have q0 := bk_lt hw.b0; have q1 := bk_lt hw.b1; have q3 := bk_lt hw.b3; have q4 := bk_lt hw.b4
      omega
    · rw [List.getElem?_set_ne (Ne.symm h5), List.getElem?_append_left hk]
  · exact ⟨il, vl, o, m, c, μ, qLd_ok h.st (e := .agg (wC 0 (.own il vl o m c false) w)) rfl rfl rfl, h, Fw.refl _ _⟩
theorem stLn {μ : PH} {w : Win} {cell : DV} {il vl o m c : Nat} (hb : bk μ 5 0 = some (wB (wC 0 cell w))) : qSt μ 1 (.ptr 5 0 0 3) (.own il vl o m c false) = some (μ.set 5 (wB (wC 0 (.own il vl o m c false) w))) := by
  rw [qSt_ptr (size := 1) (off := 3) (i := 0) (e := .agg (wC 0 cell w)) (cs := [.own il vl o m c false]) hb rfl rfl (by rw [cellsD_agg]; show _ ≤ 7; decide) rfl]
  rfl
theorem WB.cell {μ : PH} {w w' : Win} {ln : DV} {b : PB} (h : WB μ 0 w ln) (hl : ∀ il, idO ln = some il → il ≠ 5) : WB (μ.set 5 b) 0 w ln := h.mono fun k ver hk => bk_set_ne (by
  rcases hk with rfl | rfl | rfl | rfl | hk
  · decide
  · decide
  · decide
  · decide
  · exact (hl k hk).symm)
section
variable {N n : Nat} {μ : PH} {w : Win} {cell : DV} (f : Frm)
theorem write_ok (h : WS μ w cell) (hl : w.line.length ≤ 30) : ∃ μ' cell', qfn P N (n + 1) n_impl_Window_write [.ptr 5 0 0 0, f.enc] μ = some ([], μ') ∧ WS μ' (writeW w f) cell' ∧ Fw μ μ' cell cell' := by
  obtain ⟨il, vl, o, m, c, μ1, q1, q2, q3⟩ := h.ldLine
  obtain ⟨hwb, h5⟩ : WB μ1 0 w (.own il vl o m c false) ∧ il ≠ 5 := by
    rcases q2.or_ with ⟨g, _⟩ | ⟨g, a, b, cc, d, e, g2, g3⟩
    · cases g
    · cases g2; exact ⟨g, g3⟩
  have hlen := lenL hwb.lna
  have hld2 : qLd μ1 1 false (.ptr 5 0 0 3) = some (.own il vl o m c false, μ1) := qLd_ok q2.st (e := .agg (wC 0 (.own il vl o m c false) w)) rfl rfl rfl
  rw [impl_Window_write_eq]
  by_cases hlt : w.line.length < 30
  · have hi : ((w.line.length : Nat) : Int) < 30 := by omega
    obtain ⟨ln', b', p1, p2, p3, v', o', c', p4⟩ := hwb.push (by omega) f
    have hn := hwb.ne il rfl
    have hw : writeW w f = { w with line := w.line ++ [f] } := by unfold writeW; rw [if_pos hlt]
    rw [hw]
    have hst1 : bk (μ1.set il b') 5 0 = some (wB (wC 0 (.own il vl o m c false) w)) := by rw [bk_set_ne h5]; exact q2.st
    subst p4
    have hs := stLn (il := il) (vl := v') (o := o') (m := m + 1) (c := c') hst1
    refine ⟨(μ1.set il b').set 5 (wB (wC 0 (.own il v' o' (m + 1) c' false) w)), .own il v' o' (m + 1) c' false, ?_, ⟨bk_wB hst1, .inr ⟨WB.cell (w' := w) p3 (fun il' hi => by cases hi; exact h5), _, _, _, _, _, rfl, h5⟩⟩, ?_⟩
    · unfold P_impl_Window_write
      simp only [a3_frm, qNil_ptr h.st, bd_some, qFA_ptr _ h.st, Nat.zero_add, q1, b2_some, hlen, qBin_lss, qB_bool, hi, decide_true, cond_true, qNil_ptr q2.st, qFA_ptr _ q2.st, hld2, bsF]
      have p1' : qAp μ1 false [.sc, .sc, .sc] 3 32 (.own il vl o m c false) (.sl shFrm [Frm.enc ⟨f.back, f.no, f.text⟩]) = some (.own il v' o' (m + 1) c' false, μ1.set il b') := p1
      simp only [p1', b2_some, qNil_ptr hst1, qFA_ptr _ hst1, Nat.zero_add, bd_some, hs]
    · have hid : Fw μ μ1 cell (.own il v' o' (m + 1) c' false) := ⟨q3.len, q3.eq, fun j hj => q3.id j (by cases hj; rfl)⟩
      exact (hid.set (.inr (.inr (.inr (.inr (.inr (q3.id il rfl))))))).set (.inr (.inr (.inr (.inr (.inl rfl)))))
  · have hi : ¬ ((w.line.length : Nat) : Int) < 30 := by omega
    have hw : writeW w f = w := by unfold writeW; rw [if_neg hlt]
    rw [hw]
    refine ⟨μ1, _, ?_, q2, q3⟩
    unfold P_impl_Window_write
    simp only [a3_frm, qNil_ptr h.st, bd_some, qFA_ptr _ h.st, Nat.zero_add, q1, b2_some, hlen, qBin_lss, qB_bool, hi, decide_false, cond_false]
end
section
variable {N n : Nat} (hN : 4294967296 ≤ N) {μ : PH} {w : Win} {cell : DV}
include hN
theorem send_ok (k : Int) (h : WS μ w cell) (hw : WOk w) : ∃ μ' cell', qfn P N (n + 2) n_impl_Window_send [.ptr 5 0 0 0, .int .i64 k] μ = some ([.bool (canW w k)], μ') ∧ WS μ' (if canW w k = true then writeW w ⟨false, k, w.pieces.getD k.toNat ⟨#[]⟩⟩ else w) cell' ∧ Fw μ μ' cell cell' := by
  have hh1 := hw.h1; have hn := hw.n; have hll := hw.l; have hs0 := hw.s0; have hs1 := hw.s1
  have hlt := ldT_le w.heard
  obtain ⟨l0, l1, l2, l4, l5⟩ := h.ld
  have ht := without_ok (N := N) (n := n) hN w.heard (by omega) (μ := μ) (args := [.own (0 + 1) 0 0 w.heard.length w.heard.length false]) (by
    simp only [sns, S_impl_without]; rw [snBool h.b1 rfl rfl rfl]; rfl)
  have hlp : qLen μ (.own 0 0 0 w.pieces.length w.pieces.length false) = some (.int .i64 w.pieces.length) := qLen_own h.b0
  rw [impl_Window_send_eq]
  unfold P_impl_Window_send
  simp only [qNil_ptr h.st, bd_some, qFA_ptr _ h.st, Nat.zero_add, l2, b2_some]
  rw [show (0 + 1 : Nat) = 1 from rfl] at ht l2
  simp only [ht, c1_some, u1_list, qNil_ptr h.st, bd_some, qFA_ptr _ h.st, Nat.zero_add, l1, l0, b2_some, hlp, qBin_add]
  rw [wrapI (n := (ldT w.heard : Int) + w.size) (by constructor <;> omega)]
  have hmin : qMin (.int .i64 ((ldT w.heard : Int) + w.size)) (.int .i64 (w.pieces.length : Nat)) = some (.int .i64 (if (w.pieces.length : Int) < (ldT w.heard : Int) + w.size then (w.pieces.length : Int) else (ldT w.heard : Int) + w.size)) := rfl
  generalize hM : (if (w.pieces.length : Int) < (ldT w.heard : Int) + w.size then (w.pieces.length : Int) else (ldT w.heard : Int) + w.size) = M at hmin
  have hMb : M ≤ w.pieces.length ∧ M ≤ (ldT w.heard : Int) + w.size ∧ (M = w.pieces.length ∨ M = (ldT w.heard : Int) + w.size) := by subst hM; split <;> omega
  simp only [hmin, bd_some, qBin_sub]
  rw [wrapI (n := M - 1) (by constructor <;> omega)]
  simp only [within_ok, c1_some, u1_list, qUn_not, bd_some, qB_bool]
  by_cases c1' : (ldT w.heard : Int) ≤ k ∧ k ≤ M - 1
  · have hb : (decide ((ldT w.heard : Int) ≤ k) && decide (k ≤ M - 1)) = true := by simp [c1']
    have e1 := ia1 (n := w.heard.length) (c := w.heard.length) (kk := .i64) (k := k) h.b1 rfl (by omega) (by omega)
    have e2 := ldB (j := k.toNat) h.b1 (by omega)
    rw [show (0 + 1 : Nat) = 1 from rfl] at e1 e2
    simp only [hb, Bool.not_true, cond_false, qNil_ptr h.st, qFA_ptr _ h.st, Nat.zero_add, e1, e2, bd_some, b2_some, qB_bool, l2]
    cases c4' : w.heard.getD k.toNat false with
    | true =>
      have hc : canW w k = false := by unfold canW; rw [c4']; simp
      refine ⟨μ, cell, by simp only [cond_true, hc], by rw [if_neg (by simp [hc])]; exact h, Fw.refl _ _⟩
    | false =>
      have hc : canW w k = true := by unfold canW; rw [c4']; simp; omega
      have e3 := ia1 (n := w.pieces.length) (c := w.pieces.length) (kk := .i64) (k := k) h.b0 rfl (by omega) (by omega)
      have e4 := ldTx (j := k.toNat) h.b0 (by omega)
      obtain ⟨μ', cell', q1, q2, q3⟩ := write_ok (N := N) (n := n) ⟨false, k, w.pieces.getD k.toNat ⟨#[]⟩⟩ h hll
      refine ⟨μ', cell', ?_, by rw [if_pos hc]; exact q2, q3⟩
      have q1' : qfn P N (n + 1) n_impl_Window_write [.ptr 5 0 0 0, .agg [.bool false, .int .i64 k, .str (w.pieces.getD k.toNat ⟨#[]⟩)]] μ = some ([], μ') := q1
      simp only [cond_false, qNil_ptr h.st, qFA_ptr _ h.st, Nat.zero_add, l0, e3, bd_some, e4, b2_some, bFrm false, q1', hc]
      rfl
  · have hb : (decide ((ldT w.heard : Int) ≤ k) && decide (k ≤ M - 1)) = false := by
      by_cases g1 : (ldT w.heard : Int) ≤ k <;> by_cases g2 : k ≤ M - 1 <;> simp [g1, g2]
      exact c1' ⟨g1, g2⟩
    have hc : canW w k = false := by
      unfold canW
      by_cases g1 : (ldT w.heard : Int) ≤ k <;> by_cases g2 : k < (w.pieces.length : Int) <;> by_cases g3 : k < (ldT w.heard : Int) + w.size <;> simp [g1, g2, g3]
      exfalso; omega
    refine ⟨μ, cell, by simp only [hb, Bool.not_false, cond_true, hc], by rw [if_neg (by simp [hc])]; exact h, Fw.refl _ _⟩
omit hN in
theorem WS.of {μ' : PH} {w' : Win} {cell' : DV} (h : WS μ w cell) (hst : bk μ' 5 0 = some (wB (wC 0 cell' w'))) (hc : cell' = cell) (h0 : bk μ' 0 0 = some (tB 0 w'.pieces)) (h1 : bk μ' (0 + 1) 0 = some (boolB w'.heard)) (h3 : bk μ' (0 + 3) 0 = some (tB 0 w'.held)) (h4 : bk μ' (0 + 4) 0 = some (boolB w'.has)) (hl : w'.line = w.line)
    (hk : ∀ il v, idO cell = some il → bk μ' il v = bk μ il v) : WS μ' w' cell' := by
  subst hc
  refine ⟨hst, ?_⟩
  rcases h.or_ with ⟨g, hw⟩ | ⟨hw, g⟩
  · refine .inl ⟨g, ⟨h0, h1, h3, h4, ?_, hw.ne⟩⟩
    rw [hl]
    have := hw.lna
    generalize w.line = l at this
    cases this; exact .e0
  · refine .inr ⟨⟨h0, h1, h3, h4, ?_, hw.ne⟩, g⟩
    rw [hl]
    have := hw.lna
    generalize w.line = l at this
    cases this with
    | e0 => exact .e0
    | own il vl o m c bj _ hb hi hc => exact .own _ _ _ _ _ _ _ ((hk il vl rfl).trans hb) hi hc
omit hN in
theorem WS.nid (h : WS μ w cell) : ∀ il, idO cell = some il → il ≠ 0 ∧ il ≠ 1 ∧ il ≠ 3 ∧ il ≠ 4 ∧ il ≠ 5 := fun il hi => by
  rcases h.or_ with ⟨g, _⟩ | ⟨hw, a, b, c, d, e, g, g5⟩
  · subst g; cases hi
  · have := hw.ne il hi
    subst g; cases hi
    omega
theorem take_ok (f : Frm) (h : WS μ w cell) (hw : WOk w) (hf : 0 ≤ f.no ∧ f.no < w.pieces.length) : ∃ μ' cell', qfn P N (n + 2) n_impl_Window_take [.ptr 5 0 0 0, f.enc] μ = some ([], μ') ∧ WS μ' (takeW w f) cell' ∧ Fw μ μ' cell cell' := by
  have hh1 := hw.h1; have hh2 := hw.h2; have hh3 := hw.h3; have hn := hw.n; have hll := hw.l
  have hnid := WS.nid h
  obtain ⟨l0, l1, l2, l4, l5⟩ := h.ld
  rw [impl_Window_take_eq]
  unfold P_impl_Window_take
  cases hb : f.back with
  | true =>
    have htk : takeW w f = { w with heard := w.heard.set f.no.toNat true } := by unfold takeW; rw [if_pos hb]
    rw [htk]
    have e1 := ia1 (n := w.heard.length) (c := w.heard.length) (kk := .i64) (k := f.no) h.b1 rfl hf.1 (by omega)
    have e2 := stB (x := true) (j := f.no.toNat) h.b1 (by omega)
    refine ⟨μ.set (0 + 1) (boolB (w.heard.set f.no.toNat true)), cell, ?_, ?_, (Fw.refl μ cell).set (.inr (.inl rfl))⟩
    · simp only [a3_frm, hb, qB_bool, cond_true, qNil_ptr h.st, bd_some, qFA_ptr _ h.st, Nat.zero_add, l2, b2_some]
      rw [show (0 + 1 : Nat) = 1 from rfl] at e1 e2
      simp only [e1, bd_some, e2]
    · refine WS.of h ?_ rfl ?_ (bk_set (b := boolB (w.heard.set f.no.toNat true)) (bk_lt h.b1) rfl) ?_ ?_ rfl fun il v hi => bk_set_ne (Ne.symm (hnid il hi).2.1)
      · rw [bk_set_ne (by decide), h.st]; simp only [wC, List.length_set]
      · rw [bk_set_ne (by decide)]; exact h.b0
      · rw [bk_set_ne (by decide)]; exact h.b3
      · rw [bk_set_ne (by decide)]; exact h.b4
  | false =>
    have htk : takeW w f = writeW { w with has := w.has.set f.no.toNat true, held := w.held.set f.no.toNat f.text, told := ldT (w.has.set f.no.toNat true) } ⟨true, f.no, ⟨#[]⟩⟩ := by unfold takeW; rw [if_neg (by simp [hb])]
    rw [htk]
    have e1 := ia1 (n := w.has.length) (c := w.has.length) (kk := .i64) (k := f.no) h.b4 rfl hf.1 (by omega)
    have e2 := stB (x := true) (j := f.no.toNat) h.b4 (by omega)
    have hb3 : bk (μ.set (0 + 4) (boolB (w.has.set f.no.toNat true))) (0 + 3) 0 = some (tB 0 w.held) := by rw [bk_set_ne (by decide)]; exact h.b3
    have e3 := ia1 (n := w.held.length) (c := w.held.length) (kk := .i64) (k := f.no) hb3 rfl hf.1 (by omega)
    have e4 := stTx (x := f.text) (j := f.no.toNat) hb3 (by omega)
    generalize hμ2 : (μ.set (0 + 4) (boolB (w.has.set f.no.toNat true))).set (0 + 3) (tB 0 (w.held.set f.no.toNat f.text)) = μ2 at e4
    have k4 : bk μ2 (0 + 4) 0 = some (boolB (w.has.set f.no.toNat true)) := by
      subst hμ2; rw [bk_set_ne (by decide)]; exact bk_set (b := boolB (w.has.set f.no.toNat true)) (bk_lt h.b4) rfl
    have k3 : bk μ2 (0 + 3) 0 = some (tB 0 (w.held.set f.no.toNat f.text)) := by
      subst hμ2; exact bk_set (b := tB 0 (w.held.set f.no.toNat f.text)) (bk_lt hb3) rfl
    have kst : bk μ2 5 0 = some (wB (wC 0 cell w)) := by subst hμ2; rw [bk_set_ne (by decide), bk_set_ne (by decide)]; exact h.st
    have k0 : bk μ2 0 0 = some (tB 0 w.pieces) := by subst hμ2; rw [bk_set_ne (by decide), bk_set_ne (by decide)]; exact h.b0
    have k1 : bk μ2 (0 + 1) 0 = some (boolB w.heard) := by subst hμ2; rw [bk_set_ne (by decide), bk_set_ne (by decide)]; exact h.b1
    have ko : ∀ il v, idO cell = some il → bk μ2 il v = bk μ il v := fun il v hi => by
      subst hμ2; rw [bk_set_ne (Ne.symm (hnid il hi).2.2.1), bk_set_ne (Ne.symm (hnid il hi).2.2.2.1)]
    have l5' : qLd μ2 1 false (.ptr 5 0 0 5) = some (.own (0 + 4) 0 0 w.has.length w.has.length false, μ2) := qLd_ok kst (e := .agg (wC 0 cell w)) rfl rfl rfl
    have ht := without_ok (N := N) (n := n) hN (w.has.set f.no.toNat true) (by rw [List.length_set]; omega) (μ := μ2) (args := [.own (0 + 4) 0 0 w.has.length w.has.length false]) (by
      simp only [sns, S_impl_without]; rw [snBool k4 rfl rfl (by rw [List.length_set])]; rfl)
    generalize hw2 : ({ w with has := w.has.set f.no.toNat true, held := w.held.set f.no.toNat f.text, told := ldT (w.has.set f.no.toNat true) } : Win) = w2
    have hs6 : qSt μ2 1 (.ptr 5 0 0 6) (.int .i64 (ldT (w.has.set f.no.toNat true))) = some (μ2.set 5 (wB (wC 0 cell w2))) := by
      rw [qSt_ptr (size := 1) (off := 6) (i := 0) (e := .agg (wC 0 cell w)) (cs := [.int .i64 (ldT (w.has.set f.no.toNat true))]) kst rfl rfl (by rw [cellsD_agg]; show _ ≤ 7; decide) rfl]
      subst hw2
      simp only [wC, List.length_set]
      rfl
    have hws : WS (μ2.set 5 (wB (wC 0 cell w2))) w2 cell := by
      refine WS.of h (bk_wB kst) rfl ?_ ?_ ?_ ?_ (by subst hw2; rfl) fun il v hi => by rw [bk_set_ne (Ne.symm (hnid il hi).2.2.2.2)]; exact ko il v hi
      · rw [bk_set_ne (by decide), k0]; subst hw2; rfl
      · rw [bk_set_ne (by decide), k1]; subst hw2; rfl
      · rw [bk_set_ne (by decide), k3]; subst hw2; rfl
      · rw [bk_set_ne (by decide), k4]; subst hw2; rfl
    obtain ⟨μ', cell', q1, q2, q3⟩ := write_ok (N := N) (n := n) ⟨true, f.no, ⟨#[]⟩⟩ hws (by subst hw2; exact hll)
    refine ⟨μ', cell', ?_, q2, ?_⟩
    · have q1' : qfn P N (n + 1) n_impl_Window_write [.ptr 5 0 0 0, .agg [.bool true, .int .i64 f.no, .str ⟨#[]⟩]] (μ2.set 5 (wB (wC 0 cell w2))) = some ([], μ') := q1
      simp only [a3_frm, hb, qB_bool, cond_false, qNil_ptr h.st, bd_some, qFA_ptr _ h.st, Nat.zero_add, l5, l4, b2_some]
      rw [show (0 + 4 : Nat) = 4 from rfl] at e1 e2 ht e3 e4 l5'
      rw [show (0 + 3 : Nat) = 3 from rfl] at e3 e4
      simp only [e1, bd_some, e2, e3, e4, qNil_ptr kst, qFA_ptr _ kst, Nat.zero_add, l5', b2_some, ht, c1_some, u1_list, hs6, bFrmT, q1']
      rfl
    · have hf1 : Fw μ (μ2.set 5 (wB (wC 0 cell w2))) cell cell := by
        subst hμ2
        exact (((Fw.refl μ cell).set (.inr (.inr (.inr (.inl rfl))))).set (.inr (.inr (.inl rfl)))).set (.inr (.inr (.inr (.inr (.inl rfl)))))
      exact hf1.trans q3
end
end Go.Lg.Pv.Q
namespace Go.Lg.Pv.Q
open Go Go.Lg Go.Lg.Pv
set_option linter.unusedVariables false
set_option linter.unusedSimpArgs false
set_option maxRecDepth 100000

theorem over_take {E D : List DV} {o j : Nat} (h : o + j ≤ E.length) : ((overD E (o + j) D).drop o).take (j + D.length) = (E.drop o).take j ++ D := by
  unfold overD
  rw [List.append_assoc, List.drop_append_of_le_length (by rw [List.length_take]; omega), List.drop_take, show o + j - o = j by omega]
  rw [← List.append_assoc]
  exact List.take_left' (by rw [List.length_append, List.length_take, List.length_drop]; omega)
theorem over_below {X : List DV} {o p q : Nat} {z : List DV} (h : o + q ≤ p) (hp : p ≤ X.length) : ((overD X p z).drop o).take q = (X.drop o).take q := by
  unfold overD
  rw [List.append_assoc, List.drop_append_of_le_length (by rw [List.length_take]; omega), List.drop_take]
  rw [List.take_append_of_le_length (by rw [List.length_take, List.length_drop]; omega), List.take_take, Nat.min_eq_left (by omega)]
theorem over_len {E D : List DV} {p : Nat} (h : p + D.length ≤ E.length) : (overD E p D).length = E.length := by
  unfold overD; simp only [List.length_append, List.length_take, List.length_drop]; omega
theorem WS.mono {μ μ' : PH} {w : Win} {cell : DV} (h : WS μ w cell) (he : ∀ k ver, (k = 0 ∨ k = 1 ∨ k = 3 ∨ k = 4 ∨ k = 5 ∨ idO cell = some k) → bk μ' k ver = bk μ k ver) : WS μ' w cell := by
  refine ⟨(he 5 0 (by simp)).trans h.st, ?_⟩
  rcases h.or_ with ⟨g, hw⟩ | ⟨hw, g⟩
  · refine .inl ⟨g, hw.mono fun k ver hk => he k ver ?_⟩
    rcases hk with hk | hk | hk | hk | hk
    · exact .inl hk
    · exact .inr (.inl hk)
    · exact .inr (.inr (.inl hk))
    · exact .inr (.inr (.inr (.inl hk)))
    · cases hk
  · refine .inr ⟨hw.mono fun k ver hk => he k ver ?_, g⟩
    rcases hk with hk | hk | hk | hk | hk
    · exact .inl hk
    · exact .inr (.inl hk)
    · exact .inr (.inr (.inl hk))
    · exact .inr (.inr (.inr (.inl hk)))
    · exact .inr (.inr (.inr (.inr (.inr hk))))
theorem WS.lt {μ : PH} {w : Win} {cell : DV} (h : WS μ w cell) : 5 < μ.length ∧ ∀ il, idO cell = some il → il < μ.length := by
  refine ⟨bk_lt h.st, fun il hi => ?_⟩
  rcases h.or_ with ⟨g, _⟩ | ⟨hw, _⟩
  · subst g; cases hi
  · have := hw.lna
    generalize w.line = l at this
    cases this with
    | e0 => cases hi
    | own a b c d e bj _ hb _ _ => cases hi; exact bk_lt hb
theorem Fw.app {a b : PH} {x y : DV} (h : Fw a b x y) (c : PH) : Fw a (b ++ c) x y :=
  ⟨by rw [List.length_append]; exact Nat.le_trans h.len (Nat.le_add_right _ _), fun k hk h0 h1 h3 h4 h5 hi => by rw [List.getElem?_append_left (Nat.lt_of_lt_of_le hk h.len)]; exact h.eq k hk h0 h1 h3 h4 h5 hi, h.id⟩
section
variable {N n : Nat} {μ : PH} {il vl o m c : Nat} {bj : PB} {l : List Frm}
theorem del_ok (hb : bk μ il vl = some bj) (hi : IsL shFrm Frm.enc bj o m l) (hc : m ≤ c) (hm : m ≤ 1000) (k : Int) (h0 : 0 ≤ k) (h1 : k < m) :
    ∃ b', qfn P N (n + 1) n_slices_Delete_impl_Frame_impl_Frame [.own il vl o m c false, .int .i64 k, .int .i64 (k + 1)] μ = some ([.own il vl o (m - 1) c false], μ.set il b') ∧ bk (μ.set il b') il vl = some b' ∧ IsL shFrm Frm.enc b' o (m - 1) (l.eraseIdx k.toNat) := by
  have hn := hi.n
  have hlen := hi.len
  have hz : bj.sh.length = 3 := by rw [hi.sh_]; rfl
  obtain ⟨j, rfl⟩ : ∃ j : Nat, k = (j : Int) := ⟨k.toNat, by omega⟩
  have hj : j < m := by omega
  have s1' : ∃ x, qSl μ 3 (.own il vl o m c false) (some (.int .i64 (j : Int))) (some (.int .i64 ((j : Int) + 1))) (some (.int .i64 (m : Nat))) = some x := by
    have g1 : ¬ m = j := by omega
    simp only [qSl, hb, Option.bind_some, hz, if_true, qBd, asID]
    simp only [show (0 : Int) ≤ (m : Int) by omega, show (m : Int) ≤ (c : Int) by omega, show (0 : Int) ≤ (j : Int) + 1 by omega, Int.toNat_natCast, show (j : Int) + 1 ≤ (m : Int) by omega, and_self, if_true, Option.bind_some, show (0 : Int) ≤ (j : Int) by omega, show ((j : Int)) ≤ (((j : Int) + 1).toNat : Int) by omega, Option.isSome_some, true_and, g1, if_false]
    exact ⟨_, rfl⟩
  obtain ⟨x, s1'⟩ := s1'
  have s2' := xSl_hi (x := false) (o := o) (n := m) (c := c) (z := 3) (kk := .i64) (k := (j : Int)) hb hz (by omega) (by omega) hc
  have s3' := xSl_lo (x := false) (o := o) (n := m) (c := c) (z := 3) (kk := .i64) (k := (j : Int) + 1) hb hz (by omega) (by omega)
  rw [Int.toNat_natCast] at s2'
  rw [show ((j : Int) + 1).toNat = j + 1 by omega] at s3'
  have hD : (bj.el.drop (o + (j + 1))).take (m - (j + 1)) = (l.drop (j + 1)).map Frm.enc := by
    rw [List.map_drop, ← hi.el, List.drop_take, List.drop_drop]
  have hDl : ((l.drop (j + 1)).map Frm.enc).length = m - (j + 1) := by rw [List.length_map, List.length_drop]; omega
  have hself : μ.set il { bj with el := bj.el } = μ := bk_self hb
  have s4' : qAp μ false [.sc, .sc, .sc] 3 32 (.own il vl o j c false) (.own il vl (o + (j + 1)) (m - (j + 1)) (c - (j + 1)) false) = some (.own il vl o (m - 1) c false, μ.set il { bj with el := overD bj.el (o + j) ((l.drop (j + 1)).map Frm.enc) }) := by
    have he : elsOf μ 3 (.own il vl (o + (j + 1)) (m - (j + 1)) (c - (j + 1)) false) = some ((l.drop (j + 1)).map Frm.enc) := by
      simp only [elsOf, hb, Option.bind_some, hD, hz, flatL_map (fun f : Frm => (rfl : flat f.enc = true)), true_or, or_true, and_self, if_true]
    by_cases hd : m - (j + 1) = 0
    · have hnil : (l.drop (j + 1)).map Frm.enc = [] := List.eq_nil_of_length_eq_zero (by rw [hDl]; exact hd)
      rw [hnil] at he ⊢
      have : overD bj.el (o + j) [] = bj.el := by unfold overD; simp
      rw [this, hself]
      simp only [qAp, List.length_cons, List.length_nil, if_true, he, Option.bind_some, hb, hz]
      rw [show m - 1 = j by omega]
    · have hne : ¬ ((l.drop (j + 1)).map Frm.enc).length = 0 := by rw [hDl]; exact hd
      have hle : j + ((l.drop (j + 1)).map Frm.enc).length ≤ c := by rw [hDl]; omega
      simp only [qAp, List.length_cons, List.length_nil, Nat.zero_add, if_true, he, Option.bind_some, hb, hz, hne, if_false, putEs, hi.op, cond_false, flatL_map (fun f : Frm => (rfl : flat f.enc = true)), hle]
      rw [hDl, show j + (m - (j + 1)) = m - 1 by omega]
  generalize hE1 : overD bj.el (o + j) ((l.drop (j + 1)).map Frm.enc) = E1 at s4'
  have hE1l : E1.length = bj.el.length := by subst hE1; exact over_len (by rw [hDl]; omega)
  have hb1 : bk (μ.set il { bj with el := E1 }) il vl = some { bj with el := E1 } := bk_el hb E1
  have s5' : qSl (μ.set il { bj with el := E1 }) 3 (.own il vl o (m - 1) c false) (some (.int .i64 ((m - 1 : Nat) : Int))) (some (.int .i64 ((m : Nat) : Int))) none = some (.own il vl (o + (m - 1)) 1 (c - (m - 1)) false) := by
    simp only [qSl, hb1, Option.bind_some, hz, if_true, qBd, asID, Int.toNat_natCast]
    simp only [show (0 : Int) ≤ (m : Int) by omega, show (m : Int) ≤ (c : Int) by omega, and_self, if_true, Option.bind_some, show (0 : Int) ≤ ((m - 1 : Nat) : Int) by omega, show ((m - 1 : Nat) : Int) ≤ (m : Int) by omega, Int.toNat_natCast, Option.isSome_none, Bool.false_eq_true, false_and, if_false, Bool.false_or, show m - (m - 1) = 1 by omega]
  have s6' : qClr (μ.set il { bj with el := E1 }) true [.bool false, .int .i64 0, .str ⟨#[]⟩] (.own il vl (o + (m - 1)) 1 (c - (m - 1)) false) = some ((μ.set il { bj with el := E1 }).set il { bj with el := overD E1 (o + (m - 1)) [frm0.enc] }) := by
    have hok : [DV.bool false, .int .i64 0, .str ⟨#[]⟩].all okC = true := rfl
    have hnz : elemD true (nzL bj.sh [DV.bool false, .int .i64 0, .str ⟨#[]⟩]) = frm0.enc := by rw [hi.sh_]; rfl
    have hcnd : [DV.bool false, .int .i64 0, .str ⟨#[]⟩].length = bj.sh.length ∧ (True ∨ [DV.bool false, .int .i64 0, .str ⟨#[]⟩].length = 1) ∧ [DV.bool false, .int .i64 0, .str ⟨#[]⟩].all okC = true ∧ bj.op = false := ⟨by rw [hz]; rfl, .inl trivial, hok, hi.op⟩
    simp only [qClr, hb1, Option.bind_some, show ¬ (1 = 0) by decide, if_false]
    rw [if_pos hcnd, hnz]
    rfl
  rw [List.set_set] at s6'
  refine ⟨{ bj with el := overD E1 (o + (m - 1)) [frm0.enc] }, ?_, bk_el hb _, ⟨hi.sh_, hi.op, hi.wh, ?_, ?_⟩⟩
  · rw [slices_Delete_impl_Frame_impl_Frame_eq]
    unfold P_slices_Delete_impl_Frame_impl_Frame
    have l1' : qLen μ (.own il vl o m c false) = some (.int .i64 m) := qLen_own hb
    have l2' : qLen (μ.set il { bj with el := E1 }) (.own il vl o (m - 1) c false) = some (.int .i64 ((m - 1 : Nat) : Int)) := qLen_own hb1
    simp only [l1', bd_some, s1', qBin_eql, qB_bool, show ¬ ((j : Int) = (j : Int) + 1) by omega, decide_false, cond_false, s2', s3', s4', b2_some, l2', s5', s6']
  · show ((overD E1 (o + (m - 1)) [frm0.enc]).drop o).take (m - 1) = (l.eraseIdx (j : Int).toNat).map Frm.enc
    rw [over_below (Nat.le_refl _) (by omega), ← hE1]
    have := over_take (E := bj.el) (D := (l.drop (j + 1)).map Frm.enc) (o := o) (j := j) (by omega)
    rw [hDl, show j + (m - (j + 1)) = m - 1 by omega] at this
    rw [this, Int.toNat_natCast, List.eraseIdx_eq_take_drop_succ, List.map_append, List.map_take, ← hi.el, List.take_take, Nat.min_eq_left (by omega)]
  · show o + (m - 1) ≤ (overD E1 (o + (m - 1)) [frm0.enc]).length
    rw [over_len (by simp; omega)]; omega
end
section
variable {N n : Nat} (hN : 4294967296 ≤ N) {μ : PH} {w : Win} {cell : DV}
include hN
theorem step_ok (s : WStep) (h : WS μ w cell) (hw : WOk w) : ∃ μ' cell', qfn P N (n + 3) n_impl_Window_step [.ptr 5 0 0 0, s.enc] μ = some ([.bool (stepW w s).2], μ') ∧ WS μ' (stepW w s).1 cell' ∧ Fw μ μ' cell cell' := by
  have hll := hw.l; have hn := hw.n
  rw [impl_Window_step_eq]
  unfold P_impl_Window_step
  simp only [a2_wst, qBin_eql, bd_some, qB_bool]
  by_cases hk1 : s.kind = 1
  · obtain ⟨μ', cell', q1, q2, q3⟩ := send_ok (N := N) (n := n) hN s.k h hw
    refine ⟨μ', cell', ?_, ?_, q3⟩
    · simp only [hk1, decide_true, cond_true, q1, c1_some, u1_list]
      unfold stepW
      rw [if_pos hk1]
      cases hcw : canW w s.k <;> rfl
    · unfold stepW
      rw [if_pos hk1]
      cases hcw : canW w s.k with
      | true => rw [hcw] at q2; exact q2
      | false => rw [hcw] at q2; exact q2
  have hk1' : decide (s.kind = 1) = false := decide_eq_false hk1
  obtain ⟨il, vl, o, m, c, μ1, q1, q2, q3⟩ := h.ldLine
  have hst := q2.st
  obtain ⟨hwb, h5⟩ : WB μ1 0 w (.own il vl o m c false) ∧ il ≠ 5 := by
    rcases q2.or_ with ⟨g, _⟩ | ⟨g, a, b, cc, d, e, g2, g3⟩
    · cases g
    · cases g2; exact ⟨g, g3⟩
  have hlen := lenL hwb.lna
  have hld2 : qLd μ1 1 false (.ptr 5 0 0 3) = some (.own il vl o m c false, μ1) := qLd_ok hst (e := .agg (wC 0 (.own il vl o m c false) w)) rfl rfl rfl
  simp only [hk1', cond_false, qNil_ptr h.st, qFA_ptr _ h.st, Nat.zero_add, bd_some, q1, b2_some, hlen, qBin_sub]
  rw [wrapI (n := (w.line.length : Int) - 1) (by constructor <;> omega)]
  simp only [within_ok, c1_some, u1_list, qUn_not, bd_some, qB_bool]
  unfold stepW
  rw [if_neg hk1]
  by_cases ck : 0 ≤ s.k ∧ s.k < w.line.length
  · have hcb : (decide (0 ≤ s.k) && decide (s.k ≤ (w.line.length : Int) - 1)) = true := by simp [ck.1]; omega
    simp only [hcb, Bool.not_true, cond_false, qNil_ptr hst, qFA_ptr _ hst, Nat.zero_add, bd_some, hld2, b2_some]
    have hlna := hwb.lna
    generalize hL : w.line = l at hlna ck hlen hll
    cases hlna with
    | own _ _ _ _ _ bj _ hb hi hc =>
      have hm := hi.n
      have hkk : s.k = (s.k.toNat : Int) := by omega
      have e1 : qIA μ1 3 (.own il vl o m c false) (.int .i64 s.k) = some (.ptr il vl (o + s.k.toNat) 0) := qIA_own hb hkk (by omega) (by rw [hi.sh_]; rfl)
      have e2 : qLd μ1 3 true (.ptr il vl (o + s.k.toNat) 0) = some ((l.getD s.k.toNat frm0).enc, μ1) := by
        rw [getD_mem (by omega)]; exact qLd_ok hb (hi.at_ (by omega)) rfl rfl
      have hf := hw.f (l.getD s.k.toNat frm0) (by rw [hL, getD_mem (by omega)]; exact List.getElem_mem _)
      generalize hfe : l.getD s.k.toNat frm0 = f at e2 hf ⊢
      have e3 : qAl μ1 false [.sc, .sc, .sc] true [.bool false, .int .i64 0, .str ⟨#[]⟩] = some (.ptr μ1.length 0 0 0, μ1 ++ [frmB [frm0]]) := rfl
      have hbf0 : bk (μ1 ++ [frmB [frm0]]) μ1.length 0 = some (frmB [frm0]) := by simp [bk, frmB]
      have e4 : qSt (μ1 ++ [frmB [frm0]]) 3 (.ptr μ1.length 0 0 0) f.enc = some (μ1 ++ [frmB [f]]) := by
        rw [qSt_ptr (size := 3) (cs := [.bool f.back, .int .i64 f.no, .str f.text]) hbf0 (e := frm0.enc) rfl rfl (Nat.le_refl 3) rfl]
        simp [frmB, Frm.enc, mkE, overD, frm0]
      have hbf : bk (μ1 ++ [frmB [f]]) μ1.length 0 = some (frmB [f]) := by simp [bk, frmB]
      have ho : ∀ k ver, k < μ1.length → bk (μ1 ++ [frmB [f]]) k ver = bk μ1 k ver := fun k ver hk => by unfold bk; rw [List.getElem?_append_left hk]
      have hlt := q2.lt
      have hws : WS (μ1 ++ [frmB [f]]) w (.own il vl o m c false) := q2.mono fun k ver hk => ho k ver (by
        rcases hk with rfl | rfl | rfl | rfl | rfl | hk
        · omega
        · omega
        · omega
        · omega
        · omega
        · exact hlt.2 k hk)
      have hfw := q3.app [frmB [f]]
      have hμl : (μ1 ++ [frmB [f]]).length = μ1.length + 1 := by simp
      have hill : il < μ1.length := bk_lt hb
      have hb2 := (ho il vl hill).trans hb
      generalize hμ2 : μ1 ++ [frmB [f]] = μ2 at e4 hbf hws hfw hμl hb2
      have hst2 := hws.st
      have hld3 : qLd μ2 1 false (.ptr 5 0 0 3) = some (.own il vl o m c false, μ2) := qLd_ok hst2 (e := .agg (wC 0 (.own il vl o m c false) w)) rfl rfl rfl
      have hldf : qLd μ2 3 true (.ptr μ1.length 0 0 0) = some (f.enc, μ2) := qLd_ok hbf (e := f.enc) rfl rfl rfl
      have hlen2 : qLen μ2 (.own il vl o m c false) = some (.int .i64 l.length) := by rw [qLen_own hb2, hm]
      simp only [e1, bd_some, e2, b2_some, e3, e4, qBin_eql, qB_bool]
      by_cases c4' : s.kind = 4
      · have d2 : decide (s.kind = 2) = false := decide_eq_false (by omega)
        have d3 : decide (s.kind = 3) = false := decide_eq_false (by omega)
        have d4 : decide (s.kind = 4) = true := decide_eq_true c4'
        rw [if_pos ⟨ck.1, ck.2, by omega, by omega⟩, if_pos c4']
        simp only [d2, d3, d4, cond_false, cond_true, qNil_ptr hst2, qFA_ptr _ hst2, Nat.zero_add, bd_some, hld3, b2_some, hlen2, qBin_eql, qB_bool]
        by_cases c5' : l.length = 30
        · have hi5 : ((l.length : Nat) : Int) = 30 := by omega
          rw [if_pos c5']
          exact ⟨μ2, _, by simp only [hi5, decide_true, cond_true], hws, hfw⟩
        · have hi5 : ¬ ((l.length : Nat) : Int) = 30 := by omega
          rw [if_neg c5']
          obtain ⟨μ', cell', p1, p2, p3⟩ := write_ok (N := N) (n := n + 1) f hws (by rw [hL]; exact hll)
          refine ⟨μ', cell', ?_, p2, hfw.trans p3⟩
          simp only [hi5, decide_false, cond_false, hldf, b2_some, p1]
          rfl
      · have d4 : decide (s.kind = 4) = false := decide_eq_false c4'
        by_cases c23 : s.kind = 2 ∨ s.kind = 3
        · rw [if_pos ⟨ck.1, ck.2, by omega, by omega⟩, if_neg c4']
          obtain ⟨b', p1, p2, p3⟩ := del_ok (N := N) (n := n + 1) hb2 hi hc (by omega) s.k ck.1 (by omega)
          have hst3 : bk (μ2.set il b') 5 0 = some (wB (wC 0 (.own il vl o m c false) w)) := by rw [bk_set_ne h5]; exact hst2
          have hs3 := stLn (il := il) (vl := vl) (o := o) (m := m - 1) (c := c) hst3
          have hnid := hws.nid il rfl
          have hne0 : ∀ k, k = 0 ∨ k = 1 ∨ k = 3 ∨ k = 4 → il ≠ k ∧ 5 ≠ k := fun k hk => by omega
          have hbb : ∀ {k : Nat} {x : PB}, (k = 0 ∨ k = 1 ∨ k = 3 ∨ k = 4) → bk μ2 k 0 = some x → bk ((μ2.set il b').set 5 (wB (wC 0 (.own il vl o (m - 1) c false) w))) k 0 = some x := fun {k x} hk hx => by
            rw [bk_set_ne (hne0 k hk).2, bk_set_ne (hne0 k hk).1]; exact hx
          have hws3 : WS ((μ2.set il b').set 5 (wB (wC 0 (.own il vl o (m - 1) c false) w))) { w with line := l.eraseIdx s.k.toNat } (.own il vl o (m - 1) c false) := by
            refine ⟨bk_wB hst3, .inr ⟨⟨hbb (.inl rfl) hws.b0, hbb (.inr (.inl rfl)) hws.b1, hbb (.inr (.inr (.inl rfl))) hws.b3, hbb (.inr (.inr (.inr rfl))) hws.b4, ?_, fun il' hi' => by cases hi'; omega⟩, _, _, _, _, _, rfl, h5⟩⟩
            exact .own _ _ _ _ _ b' _ (by rw [bk_set_ne (Ne.symm h5)]; exact p2) p3 (by omega)
          have hfw3 : Fw μ ((μ2.set il b').set 5 (wB (wC 0 (.own il vl o (m - 1) c false) w))) cell (.own il vl o (m - 1) c false) := by
            have : Fw μ μ2 cell (.own il vl o (m - 1) c false) := ⟨hfw.len, hfw.eq, fun j hj => hfw.id j (by cases hj; rfl)⟩
            exact (this.set (.inr (.inr (.inr (.inr (.inr (hfw.id il rfl))))))).set (.inr (.inr (.inr (.inr (.inl rfl)))))
          have hadd : qBin μ2 (.int .i64) .add (.int .i64 s.k) (.int .i64 1) = some (.int .i64 (s.k + 1)) := by rw [qBin_add, wrapI (n := s.k + 1) (by constructor <;> omega)]
          have hldf3 : qLd ((μ2.set il b').set 5 (wB (wC 0 (.own il vl o (m - 1) c false) w))) 3 true (.ptr μ1.length 0 0 0) = some (f.enc, (μ2.set il b').set 5 (wB (wC 0 (.own il vl o (m - 1) c false) w))) :=
            qLd_ok (b := frmB [f]) (by rw [bk_set_ne (by omega), bk_set_ne (by omega)]; exact hbf) (e := f.enc) rfl rfl rfl
          have herase := erase_ok hw s.k.toNat
          rw [hL] at herase
          by_cases c2' : s.kind = 2
          · have d2 : decide (s.kind = 2) = true := decide_eq_true c2'
            rw [if_pos c2']
            obtain ⟨μ', cell', r1, r2, r3⟩ := take_ok (N := N) (n := n) hN f hws3 herase hf
            refine ⟨μ', cell', ?_, r2, hfw3.trans r3⟩
            simp only [d2, cond_true, qB_bool, qNil_ptr hst2, qFA_ptr _ hst2, Nat.zero_add, bd_some, hld3, b2_some, hadd, p1, c1_some, u1_list, qNil_ptr hst3, qFA_ptr _ hst3, hs3, qBin_eql, hldf3, r1]
            rfl
          · have d2 : decide (s.kind = 2) = false := decide_eq_false c2'
            have d3 : decide (s.kind = 3) = true := decide_eq_true (by omega)
            rw [if_neg c2']
            refine ⟨_, _, ?_, hws3, hfw3⟩
            simp only [d2, d3, cond_true, cond_false, qB_bool, qNil_ptr hst2, qFA_ptr _ hst2, Nat.zero_add, bd_some, hld3, b2_some, hadd, p1, c1_some, u1_list, qNil_ptr hst3, qFA_ptr _ hst3, hs3, qBin_eql]
        · have d2 : decide (s.kind = 2) = false := decide_eq_false (by omega)
          have d3 : decide (s.kind = 3) = false := decide_eq_false (by omega)
          rw [if_neg (by omega)]
          exact ⟨μ2, _, by simp only [d2, d3, d4, cond_false], hws, hfw⟩
  · have hcb : (decide (0 ≤ s.k) && decide (s.k ≤ (w.line.length : Int) - 1)) = false := by
      by_cases g1 : 0 ≤ s.k <;> by_cases g2 : s.k ≤ (w.line.length : Int) - 1 <;> simp [g1, g2]
      exact ck ⟨g1, by omega⟩
    rw [if_neg (by omega)]
    exact ⟨μ1, _, by simp only [hcb, Bool.not_false, cond_true], q2, q3⟩
end
end Go.Lg.Pv.Q
namespace Go.Lg.Pv.Q
open Go Go.Lg Go.Lg.Pv
set_option linter.unusedVariables false
set_option linter.unusedSimpArgs false
set_option maxRecDepth 100000

abbrev short (s : ByteArray) : Bool := decide ((s.size : Int) ≤ 20)
abbrev fPiece : DV := .fn n_impl_arePieces_1 [] []
abbrev fNotP : DV := .fn n_impl_areAll_string_1 [] [.rp fPiece 0]
theorem notPiece_ok {N n : Nat} (μ : PH) (s : ByteArray) : qfn P N (n + 2) n_impl_areAll_string_1 [.str s, .rp fPiece 0] μ = some ([.bool (!short s)], μ) := by
  rw [impl_areAll_string_1_eq]
  unfold P_impl_areAll_string_1
  have hg : getC (cellsD fPiece) 0 1 false = some fPiece := rfl
  have hd : qfn P N (n + 1) n_impl_arePieces_1 [.str s] μ = some ([.bool (short s)], μ) := by
    rw [impl_arePieces_1_eq]; unfold P_impl_arePieces_1; simp
  simp only [qLd_rp, hg, Option.map_some, b2_some, qF_fn, List.nil_append, List.append_nil, List.singleton_append, hd, c1_some, u1_list, qUn_not, bd_some]
def ixp : List ByteArray → Nat → Int
  | [], _ => -1
  | r :: l, i => if short r then ixp l (i + 1) else i
theorem ixp_all : ∀ (l : List ByteArray) (i : Nat), decide (ixp l i ≥ 0) = !l.all short
  | [], i => rfl
  | r :: l, i => by
    simp only [ixp, List.all_cons]
    by_cases h : short r = true
    · simp only [h, if_true, Bool.true_and]; exact ixp_all l (i + 1)
    · simp [h]
theorem ixp_ok {N n : Nat} (hN : 4294967296 ≤ N) (l : List ByteArray) (hlen : l.length ≤ 1048576) :
    run1 S_slices_IndexFunc_string_string (qfn P N (n + 3) n_slices_IndexFunc_string_string) [.sl [.sc] (l.map DV.str), fNotP] = some ([.int .i64 (ixp l 0)], []) := by
  refine run1_of (ν := []) rfl rfl rfl (r := [.int .i64 (ixp l 0)]) ?_ (resO_sc rfl)
  rw [slices_IndexFunc_string_string_eq]
  unfold P_slices_IndexFunc_string_string
  refine Eq.trans (by simp) (loop_acc (F := P_slices_IndexFunc_string_string.l0 N (qfn P N (n + 2)) 0) (N := N) (σ := Unit) (len := l.length) (fun i _ => ([.sl [.sc] (l.map DV.str), fNotP, .int .i64 (l.length : Nat), .int .i64 (i : Nat)] : List DV)) (fun _ _ => []) (fun _ _ => True) (fun i _ => some ([DV.int .i64 (ixp (l.drop i) i)], []))
    ?_ ?_ l.length (i := 0) (s := ()) trivial (by omega) (by omega))
  · intro i _ rec hi _
    have hx : l.drop i = l[i] :: l.drop (i + 1) := List.drop_eq_getElem_cons hi
    rw [hx]
    unfold P_slices_IndexFunc_string_string.l0
    simp only [u4_list, bd_some, qBin_lss, qB_bool, Int.ofNat_lt, hi, decide_true, cond_true, qIA_map _ (show [Sh.sc].length = 1 from rfl) hi, qLd_rp, cellsD_str, getC_one, List.getElem?_cons_zero, Option.map_some, b2_some, qF_fn, List.nil_append, List.singleton_append, notPiece_ok, c1_some, u1_list, ixp]
    cases hg : short l[i]
    · refine .inr ?_; rfl
    · refine .inl ⟨(), trivial, ?_, rfl⟩
      simp only [Bool.not_true, cond_false, qBin_add, bd_some]
      rw [wrapI (n := (i : Int) + 1) (by constructor <;> omega)]
      rfl
  · intro _ rec _
    unfold P_slices_IndexFunc_string_string.l0
    simp [ixp]
theorem containsP_ok {N n : Nat} (hN : 4294967296 ≤ N) (l : List ByteArray) (hlen : l.length ≤ 1048576) :
    run1 S_slices_ContainsFunc_string_string (qfn P N (n + 4) n_slices_ContainsFunc_string_string) [.sl [.sc] (l.map DV.str), fNotP] = some ([.bool (!l.all short)], []) := by
  refine run1_of (ν := []) rfl rfl rfl (r := [.bool (!l.all short)]) ?_ (resO_sc rfl)
  rw [slices_ContainsFunc_string_string_eq]
  unfold P_slices_ContainsFunc_string_string
  rw [cq_sn (args' := [.sl [.sc] (l.map DV.str), fNotP]) rfl (by simp only [sns, S_slices_IndexFunc_string_string, sn_cl _ _ (txts_cl l), sn_cl _ _ (show cl fNotP = true from rfl), Option.bind_some]) (ixp_ok (n := n) hN l hlen) rfl, adL_sc rfl]
  simp only [c1_some, u1_list, qBin_geq, bd_some, ixp_all]
theorem areAllP_ok {N n : Nat} (hN : 4294967296 ≤ N) (l : List ByteArray) (hlen : l.length ≤ 1048576) :
    run1 S_impl_areAll_string (qfn P N (n + 5) n_impl_areAll_string) [.sl [.sc] (l.map DV.str), fPiece] = some ([.bool (l.all short)], []) := by
  refine run1_of (ν := [⟨0, [.sc], [fPiece], true, true, true⟩]) rfl rfl rfl (r := [.bool (l.all short)]) ?_ (resO_sc rfl)
  rw [impl_areAll_string_eq]
  unfold P_impl_areAll_string
  have ha : qAl [] true [.sc] false [fPiece] = some (.ptr 0 0 0 0, [⟨0, [.sc], [fPiece], true, true, true⟩]) := rfl
  simp only [s1_fn, ha, b2_some]
  have hs : sns [⟨0, [.sc], [fPiece], true, true, true⟩] S_slices_ContainsFunc_string_string.ps [.sl [.sc] (l.map DV.str), .fn n_impl_areAll_string_1 [] [.ptr 0 0 0 0]] = some [.sl [.sc] (l.map DV.str), fNotP] := by
    simp only [sns, S_slices_ContainsFunc_string_string, sn_cl _ _ (txts_cl l), Option.bind_some]
    rfl
  rw [cq_sn rfl hs (containsP_ok (n := n) hN l hlen) rfl, adL_sc rfl]
  simp only [c1_some, u1_list, qUn_not, bd_some, Bool.not_not]

def arePc (l : List ByteArray) : Bool := decide ((l.length : Int) ≤ 12) && l.all short
theorem arePieces_ok {N n : Nat} (hN : 4294967296 ≤ N) (b : List ByteArray) (hlen : b.length ≤ 1048576) (μ : PH) :
    cq S_impl_arePieces (qfn P N (n + 6) n_impl_arePieces) [.sl [.sc] (b.map DV.str)] μ = some ([.bool (arePc b)], μ) := by
  rw [cq_sn (args' := [.sl [.sc] (b.map DV.str)]) (res := [.bool (arePc b)]) rfl (by simp only [sns, S_impl_arePieces, sn_cl _ _ (txts_cl b), Option.bind_some]) ?_ rfl, adL_sc rfl]
  refine run1_of (ν := []) rfl rfl rfl (r := [.bool (arePc b)]) ?_ (resO_sc rfl)
  rw [impl_arePieces_eq]
  unfold P_impl_arePieces arePc
  simp only [qLen_sl, List.length_map, bd_some, qBin_leq, qB_bool]
  rw [cq_sn (args' := [.sl [.sc] (b.map DV.str), fPiece]) rfl (by simp only [sns, S_impl_areAll_string, sn_cl _ _ (txts_cl b), sn_cl _ _ (show cl fPiece = true from rfl), Option.bind_some]) (areAllP_ok (n := n) hN b hlen) rfl, adL_sc rfl]
  by_cases h : (b.length : Int) ≤ 12 <;> simp [h]
theorem l9Pieces_ok {N n : Nat} (hN : 4294967296 ≤ N) (b : List ByteArray) (hlen : b.length ≤ 1048576) (μ : PH) :
    cq S_spec_l9Pieces (qfn P N (n + 1) n_spec_l9Pieces) [.sl [.sc] (b.map DV.str)] μ = some ([.bool (arePc b)], μ) := by
  rw [cq_sn (args' := [.sl [.sc] (b.map DV.str)]) (res := [.bool (arePc b)]) rfl (by simp only [sns, S_spec_l9Pieces, sn_cl _ _ (txts_cl b), Option.bind_some]) ?_ rfl, adL_sc rfl]
  refine run1_of (ν := []) rfl rfl rfl (r := [.bool (arePc b)]) ?_ (resO_sc rfl)
  rw [spec_l9Pieces_eq]
  unfold P_spec_l9Pieces arePc
  refine Eq.trans (by simp) (loop_acc (F := P_spec_l9Pieces.l0 N (qfn P N n) 0) (N := N) (σ := Unit) (len := b.length) (fun i _ => ([.sl [.sc] (b.map DV.str), .sl [.sc] (b.map DV.str), .int .i64 (b.length : Nat), .int .i64 (i : Nat)] : List DV)) (fun _ _ => []) (fun _ _ => True) (fun i _ => some ([DV.bool (decide ((b.length : Int) ≤ 12) && (b.drop i).all short)], []))
    ?_ ?_ b.length (i := 0) (s := ()) trivial (by omega) (by omega))
  · intro i _ rec hi _
    have hx : b.drop i = b[i] :: b.drop (i + 1) := List.drop_eq_getElem_cons hi
    rw [hx]
    unfold P_spec_l9Pieces.l0
    simp only [u4_list, bd_some, qBin_lss, qB_bool, Int.ofNat_lt, hi, decide_true, cond_true, qIA_map _ (show [Sh.sc].length = 1 from rfl) hi, qLd_rp, cellsD_str, getC_one, List.getElem?_cons_zero, Option.map_some, b2_some, qLs_str, qBin_gtr, List.all_cons]
    by_cases hg : (b[i].size : Int) > 20
    · refine .inr ?_
      simp [short, hg, show ¬ ((b[i].size : Int) ≤ 20) by omega]
    · refine .inl ⟨(), trivial, ?_, by simp [short, show ((b[i].size : Int) ≤ 20) by omega]⟩
      simp only [hg, decide_false, cond_false, qBin_add, bd_some]
      rw [wrapI (n := (i : Int) + 1) (by constructor <;> omega)]
      rfl
  · intro _ rec _
    unfold P_spec_l9Pieces.l0
    simp
theorem res1_ex {ν : PH} {i : Nat} {w : Win} {ln : DV} (h : WB ν i w ln) : ∃ ν', resO [shWin] [.agg (wC i ln w)] ν = some ([w.enc], ν') := res1 h
theorem l9Own_run {N n : Nat} (w : Win) (h0 : w.pieces.length ≤ 1048576) (h1 : w.heard.length ≤ 1048576) (h2 : w.line.length ≤ 1048576) (h3 : w.held.length ≤ 1048576) (h4 : w.has.length ≤ 1048576) :
    run1 S_spec_l9Own (qfn P N (n + 1) n_spec_l9Own) [w.enc] = some ([w.enc], []) := by
  refine run1_ex rfl rfl rfl ?_
  rw [spec_l9Own_eq]
  unfold P_spec_l9Own
  have bT : ∀ μ : PH, qBS μ false [.sc] false [.str ⟨#[]⟩] 1 0 [] = some (.e0 1, μ) := fun _ => rfl
  have bB : ∀ μ : PH, qBS μ false [.sc] false [.bool false] 1 0 [] = some (.e0 1, μ) := fun _ => rfl
  have bF : ∀ μ : PH, qBS μ false [.sc, .sc, .sc] true [.bool false, .int .i64 0, .str ⟨#[]⟩] 3 0 [] = some (.e0 3, μ) := fun _ => rfl
  have aT : ∀ (μ : PH) (l : List ByteArray), l.length ≤ 1048576 → qAp μ false [.sc] 1 16 (.e0 1) (.sl [.sc] (l.map DV.str)) = some (nwS μ 1 (l.map DV.str), nwM μ [.sc] (l.map DV.str)) := fun μ l h => qAp_nw rfl (flatL_txt l) (by rw [List.length_map]; omega) (by decide) (by rw [List.length_map]; omega)
  have aB : ∀ (μ : PH) (l : List Bool), l.length ≤ 1048576 → qAp μ false [.sc] 1 1 (.e0 1) (.sl [.sc] (l.map eBool)) = some (nwS μ 1 (l.map eBool), nwM μ [.sc] (l.map eBool)) := fun μ l h => qAp_nw rfl (flatL_map (fun _ => rfl) l) (by rw [List.length_map]; omega) (by decide) (by rw [List.length_map]; omega)
  have aF : ∀ (μ : PH) (l : List Frm), l.length ≤ 1048576 → qAp μ false [.sc, .sc, .sc] 3 32 (.e0 3) (.sl shFrm (l.map Frm.enc)) = some (nwS μ 3 (l.map Frm.enc), nwM μ shFrm (l.map Frm.enc)) := fun μ l h => qAp_nw rfl (flatL_map (fun _ => rfl) l) (by rw [List.length_map]; omega) (by decide) (by rw [List.length_map]; omega)
  simp only [a7_win, bT, bB, bF, b2_some, aT _ _ h0, aB _ _ h1, aF _ _ h2, aT _ _ h3, aB _ _ h4, s1_nw, a7_agg]
  obtain ⟨ν', hk⟩ := nw_chain [([.sc], w.pieces.map DV.str), ([.sc], w.heard.map eBool), (shFrm, w.line.map Frm.enc), ([.sc], w.held.map DV.str), ([.sc], w.has.map eBool)] [] _
    (fun p hp => by
      simp only [List.mem_cons, List.not_mem_nil, or_false] at hp
      rcases hp with rfl | rfl | rfl | rfl | rfl
      · exact txt_cl _
      · exact eBool_cl _
      · exact clL_map Frm.cl _
      · exact txt_cl _
      · exact eBool_cl _) (fun k _ => rfl)
  refine ⟨_, rfl, ν', ?_⟩
  simp only [nwL] at hk
  cases hk with
  | cons t1 hk => cases hk with
    | cons t2 hk => cases hk with
      | cons t3 hk => cases hk with
        | cons t4 hk => cases hk with
          | cons t5 hk =>
            cases hk
            have e : ∀ (μ : PH) (s : Sh) (k : IntKind) (a : Int), tkC μ s (.int k a) = some (.int k a, μ) := fun _ _ _ _ => rfl
            simp only [List.length_cons, List.length_nil, Nat.zero_add, Nat.reduceAdd] at t1 t2 t3 t4 t5
            simp only [resO, S_spec_l9Own, onS, zipS, List.headD_cons, List.tail_cons, t1, t2, t3, t4, t5, e, Option.bind_some, Option.map_some]
            rfl
theorem cq_l9Own {N n : Nat} (w : Win) (h0 : w.pieces.length ≤ 1048576) (h1 : w.heard.length ≤ 1048576) (h2 : w.line.length ≤ 1048576) (h3 : w.held.length ≤ 1048576) (h4 : w.has.length ≤ 1048576) {μ : PH} {args : List DV} (hs : sns μ S_spec_l9Own.ps args = some [w.enc]) :
    cq S_spec_l9Own (qfn P N (n + 1) n_spec_l9Own) args μ = some ([winOwn μ.length w], μ ++ wM w) := by
  rw [cq_sn rfl hs (l9Own_run w h0 h1 h2 h3 h4) rfl, adL_w]; rfl

theorem cloneT_ok {N n : Nat} (l : List ByteArray) (hlen : l.length ≤ 1048576) : run1 S_slices_Clone_string_string (qfn P N (n + 1) n_slices_Clone_string_string) [.sl [.sc] (l.map DV.str)] = some ([.sl [.sc] (l.map DV.str)], []) :=
  clone_run (by_ := 16) (agg := false) (zero := [.str ⟨#[]⟩]) rfl (by rw [slices_Clone_string_string_eq]; rfl) rfl rfl (flatL_txt l) (txt_cl l) (by simp; omega) (by decide) (by simp; omega)
theorem cloneB_ok {N n : Nat} (l : List Bool) (hlen : l.length ≤ 1048576) : run1 S_slices_Clone_bool_bool (qfn P N (n + 1) n_slices_Clone_bool_bool) [.sl [.sc] (l.map eBool)] = some ([.sl [.sc] (l.map eBool)], []) :=
  clone_run (by_ := 1) (agg := false) (zero := [.bool false]) rfl (by rw [slices_Clone_bool_bool_eq]; rfl) rfl rfl (flatL_map (fun _ => rfl) l) (eBool_cl l) (by simp; omega) (by decide) (by simp; omega)
theorem cloneF_ok {N n : Nat} (l : List Frm) (hlen : l.length ≤ 1048576) : run1 S_slices_Clone_impl_Frame_impl_Frame (qfn P N (n + 1) n_slices_Clone_impl_Frame_impl_Frame) [.sl shFrm (l.map Frm.enc)] = some ([.sl shFrm (l.map Frm.enc)], []) :=
  clone_run (by_ := 32) (agg := true) (zero := [.bool false, .int .i64 0, .str ⟨#[]⟩]) rfl (by rw [slices_Clone_impl_Frame_impl_Frame_eq]; rfl) rfl rfl (flatL_map (fun _ => rfl) l) (clL_map Frm.cl l) (by simp; omega) (by decide) (by simp; omega)
theorem cq_clT {N n : Nat} (l : List ByteArray) (hlen : l.length ≤ 1048576) (μ : PH) : cq S_slices_Clone_string_string (qfn P N (n + 1) n_slices_Clone_string_string) [.sl [.sc] (l.map DV.str)] μ = some ([.own μ.length 0 0 l.length l.length false], μ ++ [tB 0 l]) := by
  rw [cq_sn rfl (by simp only [sns, S_slices_Clone_string_string, sn_cl _ _ (txts_cl l), Option.bind_some]) (cloneT_ok l hlen) rfl, adL_sl, List.length_map]; rfl
theorem cq_clB {N n : Nat} (l : List Bool) (hlen : l.length ≤ 1048576) (μ : PH) : cq S_slices_Clone_bool_bool (qfn P N (n + 1) n_slices_Clone_bool_bool) [.sl [.sc] (l.map eBool)] μ = some ([.own μ.length 0 0 l.length l.length false], μ ++ [boolB l]) := by
  rw [cq_sn rfl (by simp only [sns, S_slices_Clone_bool_bool, sn_cl _ _ (bools_cl l), Option.bind_some]) (cloneB_ok l hlen) rfl, adL_sl, List.length_map]; rfl
theorem cq_clF {N n : Nat} (l : List Frm) (hlen : l.length ≤ 1048576) (μ : PH) : cq S_slices_Clone_impl_Frame_impl_Frame (qfn P N (n + 1) n_slices_Clone_impl_Frame_impl_Frame) [.sl shFrm (l.map Frm.enc)] μ = some ([.own μ.length 0 0 l.length l.length false], μ ++ [frmB l]) := by
  rw [cq_sn rfl (by simp only [sns, S_slices_Clone_impl_Frame_impl_Frame, sn_cl _ _ (frms_cl l), Option.bind_some]) (cloneF_ok l hlen) rfl, adL_sl, List.length_map]; rfl
def oW (cs : List DV) : PB := ⟨0, shWin, [.agg cs], true, true, true⟩
theorem ownW {N n : Nat} (w : Win) (h0 : w.pieces.length ≤ 1048576) (h1 : w.heard.length ≤ 1048576) (h2 : w.line.length ≤ 1048576) (h3 : w.held.length ≤ 1048576) (h4 : w.has.length ≤ 1048576) :
    run1 S_impl_Window_own (qfn P N (n + 2) n_impl_Window_own) [w.enc] = some ([w.enc], []) := by
  refine run1_ex rfl rfl rfl ?_
  rw [impl_Window_own_eq]
  unfold P_impl_Window_own
  have i1 : idsL [.sl [.sc] (w.pieces.map DV.str)] = [] := cl_idsL _ (by simp only [clL, txts_cl, Bool.and_self])
  have i2 : idsL [.sl [.sc] (w.heard.map eBool)] = [] := cl_idsL _ (by simp only [clL, bools_cl, Bool.and_self])
  have i3 : idsL [.sl [.sc] (w.held.map DV.str)] = [] := cl_idsL _ (by simp only [clL, txts_cl, Bool.and_self])
  have cT := cq_clT (N := N) (n := n) w.pieces h0
  have cB := cq_clB (N := N) (n := n) w.heard h1
  have cF := cq_clF (N := N) (n := n) w.line h2
  have cT2 := cq_clT (N := N) (n := n) w.held h3
  have cB2 := cq_clB (N := N) (n := n) w.has h4
  obtain ⟨ν', hr⟩ := res1 (WB.app [oW (wC 1 (.own 3 0 0 w.line.length w.line.length false) w)] w)
  refine ⟨([.agg (wC 1 (.own 3 0 0 w.line.length w.line.length false) w)], [oW (wC 1 (.own 3 0 0 w.line.length w.line.length false) w)] ++ wM w), ?_, ν', hr⟩
  have q1 : qAl [] true [.sl [.sc], .sc, .sl [.sc], .sl [.sc, .sc, .sc], .sl [.sc], .sl [.sc], .sc] true [.sl [.sc] (w.pieces.map DV.str), .int .i64 w.size, .sl [.sc] (w.heard.map eBool), .sl shFrm (w.line.map Frm.enc), .sl [.sc] (w.held.map DV.str), .sl [.sc] (w.has.map eBool), .int .i64 w.told] =
    some (.ptr 0 0 0 0, [oW [.sl [.sc] (w.pieces.map DV.str), .int .i64 w.size, .sl [.sc] (w.heard.map eBool), .sl shFrm (w.line.map Frm.enc), .sl [.sc] (w.held.map DV.str), .sl [.sc] (w.has.map eBool), .int .i64 w.told]]) := rfl
  have fa : ∀ (cs : List DV) (rest : PH) (off : Nat), qFA (oW cs :: rest) (.ptr 0 0 0 0) off = some (.ptr 0 0 0 (0 + off)) := fun _ _ _ => rfl
  have l0 : ∀ (a b c d e f g : DV) (rest : PH), qLd (oW [a, b, c, d, e, f, g] :: rest) 1 false (.ptr 0 0 0 0) = some (a, oW [a, b, c, d, e, f, g] :: rest) := fun _ _ _ _ _ _ _ _ => rfl
  have l2 : ∀ (a b c d e f g : DV) (rest : PH), qLd (oW [a, b, c, d, e, f, g] :: rest) 1 false (.ptr 0 0 0 2) = some (c, oW [a, b, c, d, e, f, g] :: rest) := fun _ _ _ _ _ _ _ _ => rfl
  have l3 : ∀ (a b c d e f g : DV) (rest : PH), qLd (oW [a, b, c, d, e, f, g] :: rest) 1 false (.ptr 0 0 0 3) = some (d, oW [a, b, c, d, e, f, g] :: rest) := fun _ _ _ _ _ _ _ _ => rfl
  have l4 : ∀ (a b c d e f g : DV) (rest : PH), qLd (oW [a, b, c, d, e, f, g] :: rest) 1 false (.ptr 0 0 0 4) = some (e, oW [a, b, c, d, e, f, g] :: rest) := fun _ _ _ _ _ _ _ _ => rfl
  have l5 : ∀ (a b c d e f g : DV) (rest : PH), qLd (oW [a, b, c, d, e, f, g] :: rest) 1 false (.ptr 0 0 0 5) = some (f, oW [a, b, c, d, e, f, g] :: rest) := fun _ _ _ _ _ _ _ _ => rfl
  have lA : ∀ (a b c d e f g : DV) (rest : PH), qLd (oW [a, b, c, d, e, f, g] :: rest) 7 true (.ptr 0 0 0 0) = some (.agg [a, b, c, d, e, f, g], oW [a, b, c, d, e, f, g] :: rest) := fun _ _ _ _ _ _ _ _ => rfl
  have t0 : ∀ (a b c d e f g : DV) (rest : PH) (i j k l m : Nat), qSt (oW [a, b, c, d, e, f, g] :: rest) 1 (.ptr 0 0 0 0) (.own i j k l m false) = some (oW [.own i j k l m false, b, c, d, e, f, g] :: rest) := fun _ _ _ _ _ _ _ _ _ _ _ _ _ => rfl
  have t2 : ∀ (a b c d e f g : DV) (rest : PH) (i j k l m : Nat), qSt (oW [a, b, c, d, e, f, g] :: rest) 1 (.ptr 0 0 0 2) (.own i j k l m false) = some (oW [a, b, .own i j k l m false, d, e, f, g] :: rest) := fun _ _ _ _ _ _ _ _ _ _ _ _ _ => rfl
  have t3 : ∀ (a b c d e f g : DV) (rest : PH) (i j k l m : Nat), qSt (oW [a, b, c, d, e, f, g] :: rest) 1 (.ptr 0 0 0 3) (.own i j k l m false) = some (oW [a, b, c, .own i j k l m false, e, f, g] :: rest) := fun _ _ _ _ _ _ _ _ _ _ _ _ _ => rfl
  have t4 : ∀ (a b c d e f g : DV) (rest : PH) (i j k l m : Nat), qSt (oW [a, b, c, d, e, f, g] :: rest) 1 (.ptr 0 0 0 4) (.own i j k l m false) = some (oW [a, b, c, d, .own i j k l m false, f, g] :: rest) := fun _ _ _ _ _ _ _ _ _ _ _ _ _ => rfl
  have t5 : ∀ (a b c d e f g : DV) (rest : PH) (i j k l m : Nat), qSt (oW [a, b, c, d, e, f, g] :: rest) 1 (.ptr 0 0 0 5) (.own i j k l m false) = some (oW [a, b, c, d, e, .own i j k l m false, g] :: rest) := fun _ _ _ _ _ _ _ _ _ _ _ _ _ => rfl
  have sd : ∀ (k : Nat) (cs : List DV) (rest : PH) (q : RD), stand (.ptr 0 0 0 k) (some []) (oW cs :: rest) q = q := fun k cs rest q => by
    have : bk (oW cs :: rest) 0 0 = some (oW cs) := rfl
    simp [stand, this]
  simp only [a7_win, q1, b2_some, fa, bd_some, Nat.zero_add, l0, l2, l3, cT, c1_some, u1_list, i1, i2, sd, List.cons_append, List.nil_append, List.length_cons, List.length_nil, Nat.reduceAdd, cB, cF, t0, t2, t3, l4, l5, cT2, i3, cB2, t4, t5, lA, a7_agg]
  rfl
theorem cq_ownW {N n : Nat} (w : Win) (h0 : w.pieces.length ≤ 1048576) (h1 : w.heard.length ≤ 1048576) (h2 : w.line.length ≤ 1048576) (h3 : w.held.length ≤ 1048576) (h4 : w.has.length ≤ 1048576) {μ : PH} {args : List DV} (hs : sns μ S_impl_Window_own.ps args = some [w.enc]) :
    cq S_impl_Window_own (qfn P N (n + 2) n_impl_Window_own) args μ = some ([winOwn μ.length w], μ ++ wM w) := by
  rw [cq_sn rfl hs (ownW w h0 h1 h2 h3 h4) rfl, adL_w]; rfl
end Go.Lg.Pv.Q
namespace Go.Lg.Pv.Q
open Go Go.Lg Go.Lg.Pv
set_option linter.unusedVariables false
set_option linter.unusedSimpArgs false
set_option maxRecDepth 100000

def isFr (w : Win) (f : Frm) : Bool := (decide (0 ≤ f.no) && decide (f.no ≤ (w.pieces.length : Int) - 1)) && (if f.back then decide (f.text = ⟨#[]⟩) && w.has.getD f.no.toNat false else decide (f.text = w.pieces.getD f.no.toNat ⟨#[]⟩))
theorem iaF {μ : PH} {α : Type} {g : α → DV} {sh : List Sh} {z : Nat} (hz : sh.length = z) {l : List α} {k : Int} {kk : IntKind} (h0 : 0 ≤ k) (h1 : k < l.length) : qIA μ z (.sl sh (l.map g)) (.int kk k) = some (.rp (g (l[k.toNat]'(by omega))) 0) :=
  qIA_sl μ (j := k.toNat) (by omega) hz (by rw [List.getElem?_map, List.getElem?_eq_getElem (by omega)]; rfl)
theorem isFrame_ok {N n : Nat} (μ : PH) (w : Win) (f : Frm) (h3 : w.has.length = w.pieces.length) (hn : w.pieces.length ≤ 1048576) : qfn P N (n + 2) n_impl_Window_isFrame [w.enc, f.enc] μ = some ([.bool (isFr w f)], μ) := by
  rw [impl_Window_isFrame_eq]
  unfold P_impl_Window_isFrame isFr
  simp only [a7_win, a3_frm, qLen_sl, List.length_map, bd_some, qBin_sub]
  rw [wrapI (n := (w.pieces.length : Int) - 1) (by constructor <;> omega)]
  simp only [within_ok, c1_some, u1_list, qUn_not, bd_some, qB_bool]
  by_cases c : 0 ≤ f.no ∧ f.no ≤ (w.pieces.length : Int) - 1
  · have hb : (decide (0 ≤ f.no) && decide (f.no ≤ (w.pieces.length : Int) - 1)) = true := by simp [c]
    simp only [hb, Bool.not_true, cond_false, Bool.true_and]
    cases hf : f.back with
    | true =>
      simp only [cond_true, qBin_seql, bd_some, qB_bool, if_true]
      by_cases ht : f.text = ⟨#[]⟩
      · rw [iaF (μ := μ) (g := eBool) (sh := [.sc]) (z := 1) (kk := .i64) rfl c.1 (by omega), getD_mem (by omega)]
        simp only [ht, decide_true, cond_true, bd_some, qLd_rp, cells_eBool, getC_one, List.getElem?_cons_zero, Option.map_some, b2_some, Bool.true_and]
      · simp only [ht, decide_false, cond_false, Bool.false_and]
    | false =>
      rw [iaF (μ := μ) (g := DV.str) (sh := [.sc]) (z := 1) (kk := .i64) rfl c.1 (by omega), getD_mem (l := w.pieces) (by omega)]
      simp only [cond_false, bd_some, qLd_rp, cellsD_str, getC_one, List.getElem?_cons_zero, Option.map_some, b2_some, qBin_seql, Bool.false_eq_true, if_false]
  · have hb : (decide (0 ≤ f.no) && decide (f.no ≤ (w.pieces.length : Int) - 1)) = false := by
      by_cases g1 : 0 ≤ f.no <;> by_cases g2 : f.no ≤ (w.pieces.length : Int) - 1 <;> simp [g1, g2]
      exact c ⟨g1, g2⟩
    simp only [hb, Bool.not_false, cond_true, Bool.false_and]
abbrev fIs (w : Win) : DV := .fn n_impl_Window_isFrame [w.enc] []
abbrev fNotI (w : Win) : DV := .fn n_impl_areAll_impl_Frame_1 [] [.rp (fIs w) 0]
theorem fIs_cl (w : Win) : Pv.cl (fIs w) = true := by simp [Pv.cl, clL, Win.cl]
theorem fNotI_cl (w : Win) : Pv.cl (fNotI w) = true := by simp [Pv.cl, clL, Win.cl]
section
variable (w : Win) (h3 : w.has.length = w.pieces.length) (hn : w.pieces.length ≤ 1048576)
include h3 hn
theorem notFr_ok {N n : Nat} (μ : PH) (f : Frm) : qfn P N (n + 3) n_impl_areAll_impl_Frame_1 [f.enc, .rp (fIs w) 0] μ = some ([.bool (!isFr w f)], μ) := by
  rw [impl_areAll_impl_Frame_1_eq]
  have h := isFrame_ok (N := N) (n := n) μ w f h3 hn
  unfold Frm.enc at h
  unfold P_impl_areAll_impl_Frame_1
  simp only [a3_frm, qLd_rp]
  have hg : getC (cellsD (fIs w)) 0 1 false = some (fIs w) := rfl
  simp only [hg, Option.map_some, b2_some, qF_fn, List.append_nil, List.cons_append, List.nil_append, h, c1_some, u1_list, qUn_not, bd_some]
omit h3 hn in
def ixw (w : Win) : List Frm → Nat → Int
  | [], _ => -1
  | r :: l, i => if isFr w r then ixw w l (i + 1) else i
omit h3 hn in
theorem ixw_all : ∀ (l : List Frm) (i : Nat), decide (ixw w l i ≥ 0) = !l.all (isFr w)
  | [], i => rfl
  | r :: l, i => by
    simp only [ixw, List.all_cons]
    by_cases h : isFr w r = true
    · simp only [h, if_true, Bool.true_and]; exact ixw_all l (i + 1)
    · simp [h]
theorem ixw_ok {N n : Nat} (hN : 4294967296 ≤ N) (l : List Frm) (hlen : l.length ≤ 1048576) :
    run1 S_slices_IndexFunc_impl_Frame_impl_Frame (qfn P N (n + 4) n_slices_IndexFunc_impl_Frame_impl_Frame) [.sl shFrm (l.map Frm.enc), fNotI w] = some ([.int .i64 (ixw w l 0)], []) := by
  refine run1_of (ν := []) rfl rfl rfl (r := [.int .i64 (ixw w l 0)]) ?_ (resO_sc rfl)
  rw [slices_IndexFunc_impl_Frame_impl_Frame_eq]
  unfold P_slices_IndexFunc_impl_Frame_impl_Frame
  refine Eq.trans (by simp) (loop_acc (F := P_slices_IndexFunc_impl_Frame_impl_Frame.l0 N (qfn P N (n + 3)) 0) (N := N) (σ := Unit) (len := l.length) (fun i _ => ([.sl shFrm (l.map Frm.enc), fNotI w, .int .i64 (l.length : Nat), .int .i64 (i : Nat)] : List DV)) (fun _ _ => []) (fun _ _ => True) (fun i _ => some ([DV.int .i64 (ixw w (l.drop i) i)], []))
    ?_ ?_ l.length (i := 0) (s := ()) trivial (by omega) (by omega))
  · intro i _ rec hi _
    have hx : l.drop i = l[i] :: l.drop (i + 1) := List.drop_eq_getElem_cons hi
    rw [hx]
    unfold P_slices_IndexFunc_impl_Frame_impl_Frame.l0
    simp only [u4_list, bd_some, qBin_lss, qB_bool, Int.ofNat_lt, hi, decide_true, cond_true, qIA_map _ (show shFrm.length = 3 from rfl) hi, qLd_rp, Frm.get, Option.map_some, b2_some, qF_fn, List.nil_append, List.singleton_append, notFr_ok w h3 hn, c1_some, u1_list, ixw]
    cases hg : isFr w l[i]
    · refine .inr ?_; rfl
    · refine .inl ⟨(), trivial, ?_, rfl⟩
      simp only [Bool.not_true, cond_false, qBin_add, bd_some]
      rw [wrapI (n := (i : Int) + 1) (by constructor <;> omega)]
      rfl
  · intro _ rec _
    unfold P_slices_IndexFunc_impl_Frame_impl_Frame.l0
    simp [ixw]
theorem containsW_ok {N n : Nat} (hN : 4294967296 ≤ N) (l : List Frm) (hlen : l.length ≤ 1048576) :
    run1 S_slices_ContainsFunc_impl_Frame_impl_Frame (qfn P N (n + 5) n_slices_ContainsFunc_impl_Frame_impl_Frame) [.sl shFrm (l.map Frm.enc), fNotI w] = some ([.bool (!l.all (isFr w))], []) := by
  refine run1_of (ν := []) rfl rfl rfl (r := [.bool (!l.all (isFr w))]) ?_ (resO_sc rfl)
  rw [slices_ContainsFunc_impl_Frame_impl_Frame_eq]
  unfold P_slices_ContainsFunc_impl_Frame_impl_Frame
  rw [cq_sn (args' := [.sl shFrm (l.map Frm.enc), fNotI w]) rfl (by simp only [sns, S_slices_IndexFunc_impl_Frame_impl_Frame, sn_cl _ _ (frms_cl l), sn_cl _ _ (fNotI_cl w), Option.bind_some]) (ixw_ok w h3 hn (n := n) hN l hlen) rfl, adL_sc rfl]
  simp only [c1_some, u1_list, qBin_geq, bd_some, ixw_all]
omit h3 hn in
theorem snFn {μ : PH} {g : Nat} {F : DV} {s : List Sh} (hb : bk μ 0 0 = some ⟨0, [.sc], [F], true, true, true⟩) (hF : Pv.cl F = true) (ha : ∀ l, F ≠ .agg l) : Pv.sn μ s (.fn g [] [.ptr 0 0 0 0]) = some (.fn g [] [.rp F 0]) := by
  have e1 : ∀ k s, snC μ (k + 1) s F = some F := fun k s => by unfold snC; rw [if_pos hF]
  have e2 : ∀ k, onE (snC μ (k + 1)) [.sc] F = some F := fun k => by
    unfold onE
    cases F <;> first | exact e1 _ _ | exact absurd rfl (ha _)
  have e3 : ∀ k, snC μ (k + 2) .sc (.ptr 0 0 0 0) = some (.rp F 0) := fun k => by
    conv => lhs; unfold snC
    simp only [Pv.cl, Bool.false_eq_true, if_false, hb, Option.bind_some, List.getElem?_cons_zero, e2, Option.map_some]
  show snC μ 6 (s.headD .sc) (.fn g [] [.ptr 0 0 0 0]) = _
  conv => lhs; unfold snC
  simp only [Pv.cl, clL, Bool.false_eq_true, if_false, Bool.and_false, Bool.false_and, Bool.true_and, mapO, onE, List.headD_nil, e3, Option.bind_some, Option.map_some]
theorem areAllW_ok {N n : Nat} (hN : 4294967296 ≤ N) (l : List Frm) (hlen : l.length ≤ 1048576) (μ : PH) :
    cq S_impl_areAll_impl_Frame (qfn P N (n + 6) n_impl_areAll_impl_Frame) [.sl shFrm (l.map Frm.enc), fIs w] μ = some ([.bool (l.all (isFr w))], μ) := by
  rw [cq_sn (args' := [.sl shFrm (l.map Frm.enc), fIs w]) (res := [.bool (l.all (isFr w))]) rfl (by simp only [sns, S_impl_areAll_impl_Frame, sn_cl _ _ (frms_cl l), sn_cl _ _ (fIs_cl w), Option.bind_some]) ?_ rfl, adL_sc rfl]
  refine run1_of (ν := [⟨0, [.sc], [fIs w], true, true, true⟩]) rfl rfl rfl (r := [.bool (l.all (isFr w))]) ?_ (resO_sc rfl)
  rw [impl_areAll_impl_Frame_eq]
  unfold P_impl_areAll_impl_Frame
  have ha : qAl [] true [.sc] false [fIs w] = some (.ptr 0 0 0 0, [⟨0, [.sc], [fIs w], true, true, true⟩]) := rfl
  simp only [s1_fn, ha, b2_some]
  have hs : sns [⟨0, [.sc], [fIs w], true, true, true⟩] S_slices_ContainsFunc_impl_Frame_impl_Frame.ps [.sl shFrm (l.map Frm.enc), .fn n_impl_areAll_impl_Frame_1 [] [.ptr 0 0 0 0]] = some [.sl shFrm (l.map Frm.enc), fNotI w] := by
    simp only [sns, S_slices_ContainsFunc_impl_Frame_impl_Frame, sn_cl _ _ (frms_cl l), Option.bind_some]
    rw [snFn rfl (fIs_cl w) (by intro l h; cases h)]; rfl
  rw [cq_sn rfl hs (containsW_ok w h3 hn (n := n) hN l hlen) rfl, adL_sc rfl]
  simp only [c1_some, u1_list, qUn_not, bd_some, Bool.not_not]
end
def okAt (w : Win) (i : Nat) : Bool := if w.has.getD i false then decide (w.held.getD i ⟨#[]⟩ = w.pieces.getD i ⟨#[]⟩) else decide (w.held.getD i ⟨#[]⟩ = ⟨#[]⟩) && !w.heard.getD i false
def goodW (w : Win) : Bool := arePc w.pieces && (decide (1 ≤ w.size) && decide (w.size ≤ 12)) && decide (w.heard.length = w.pieces.length) && decide (w.held.length = w.pieces.length) && decide (w.has.length = w.pieces.length) && decide (w.line.length ≤ 30) && (List.range w.pieces.length).all (okAt w) && decide (w.told = ldT w.has) && w.line.all (isFr w)
theorem range_drop {n i : Nat} (h : i < n) : (List.range n).drop i = i :: (List.range n).drop (i + 1) := by
  rw [List.drop_eq_getElem_cons (by simpa using h)]; simp
theorem goodI {N n : Nat} (hN : 4294967296 ≤ N) (w : Win) (h0 : w.pieces.length ≤ 1048576) (h1 : w.heard.length ≤ 1048576) (h2 : w.line.length ≤ 1048576) (h4 : w.held.length ≤ 1048576) (h5 : w.has.length ≤ 1048576) (μ : PH) :
    cq S_impl_GoodWindow (qfn P N (n + 7) n_impl_GoodWindow) [w.enc] μ = some ([.bool (goodW w)], μ) := by
  rw [cq_sn (args' := [w.enc]) (res := [.bool (goodW w)]) rfl (by simp only [sns, S_impl_GoodWindow, sn_cl _ _ (Win.cl w), Option.bind_some]) ?_ rfl, adL_sc rfl]
  refine run1_of (ν := []) rfl rfl rfl (r := [.bool (goodW w)]) ?_ (resO_sc rfl)
  rw [impl_GoodWindow_eq]
  unfold P_impl_GoodWindow goodW
  simp only [a7_win, arePieces_ok (n := n) hN w.pieces h0, c1_some, u1_list, qUn_not, bd_some, qB_bool, qLen_sl, List.length_map, qBin_gtr, qBin_neq, within_ok]
  cases e1 : arePc w.pieces
  · simp
  by_cases e2 : 1 ≤ w.size ∧ w.size ≤ 12
  rotate_left
  · have : (decide (1 ≤ w.size) && decide (w.size ≤ 12)) = false := by
      by_cases g1 : 1 ≤ w.size <;> by_cases g2 : w.size ≤ 12 <;> simp [g1, g2]
      exact e2 ⟨g1, g2⟩
    simp [this]
  have e2b : (decide (1 ≤ w.size) && decide (w.size ≤ 12)) = true := by simp [e2]
  by_cases e3 : w.heard.length = w.pieces.length
  rotate_left
  · simp [e2b, e3, show ¬ ((w.heard.length : Int) = w.pieces.length) by omega]
  by_cases e4 : w.held.length = w.pieces.length
  rotate_left
  · simp [e2b, e3, e4, show ¬ ((w.held.length : Int) = w.pieces.length) by omega]
  by_cases e5 : w.has.length = w.pieces.length
  rotate_left
  · simp [e2b, e3, e4, e5, show ¬ ((w.has.length : Int) = w.pieces.length) by omega]
  by_cases e6 : w.line.length ≤ 30
  rotate_left
  · simp [e2b, e3, e4, e5, e6, show ((w.line.length : Int) > 30) by omega]
  have q3 : decide (¬ (w.heard.length : Int) = w.pieces.length) = false := decide_eq_false (by omega)
  have q4 : decide (¬ (w.held.length : Int) = w.pieces.length) = false := decide_eq_false (by omega)
  have q5 : decide (¬ (w.has.length : Int) = w.pieces.length) = false := decide_eq_false (by omega)
  have q6 : decide ((w.line.length : Int) > 30) = false := decide_eq_false (by omega)
  simp only [e2b, ne_eq, q3, q4, q5, q6, Bool.not_true, cond_false, e3, e4, e5, e6, decide_true, Bool.true_and]
  have hw0 := without_ok (N := N) (n := n + 5) hN w.has h5 (μ := []) (args := [.sl [.sc] (w.has.map eBool)]) (by simp only [sns, S_impl_without, sn_cl _ _ (bools_cl w.has), Option.bind_some])
  have har := areAllW_ok w e5 h0 (N := N) (n := n) hN w.line h2 []
  refine Eq.trans (by simp) (loop_acc (F := P_impl_GoodWindow.l0 N (qfn P N (n + 6)) 0) (N := N) (σ := Unit) (len := w.pieces.length) (fun i _ => ([.sl [.sc] (w.has.map eBool), .int .i64 (w.pieces.length : Nat), .int .i64 (i : Nat), .sl [.sc] (w.pieces.map DV.str), .int .i64 w.size, .sl [.sc] (w.heard.map eBool), .sl shFrm (w.line.map Frm.enc), .sl [.sc] (w.held.map DV.str), .sl [.sc] (w.has.map eBool), .int .i64 w.told] : List DV)) (fun _ _ => []) (fun _ _ => True) (fun i _ => some ([DV.bool (((List.range w.pieces.length).drop i).all (okAt w) && decide (w.told = ldT w.has) && w.line.all (isFr w))], []))
    ?_ ?_ w.pieces.length (i := 0) (s := ()) trivial (by omega) (by omega))
  · intro i _ rec hi _
    rw [range_drop hi]
    unfold P_impl_GoodWindow.l0
    simp only [u10_list, bd_some, qBin_lss, qB_bool, Int.ofNat_lt, hi, decide_true, cond_true, qIA_map _ (show [Sh.sc].length = 1 from rfl) (e5 ▸ hi : i < w.has.length), qIA_map _ (show [Sh.sc].length = 1 from rfl) (e4 ▸ hi : i < w.held.length), qIA_map _ (show [Sh.sc].length = 1 from rfl) (e3 ▸ hi : i < w.heard.length), qIA_map _ (show [Sh.sc].length = 1 from rfl) hi, qLd_rp, cells_eBool, cellsD_str, getC_one, List.getElem?_cons_zero, Option.map_some, b2_some, qBin_sneq, qUn_not, qBin_add]
    rw [wrapI (n := (i : Int) + 1) (by constructor <;> omega)]
    have ho : okAt w i = if w.has[i]'(e5 ▸ hi) then decide (w.held[i]'(e4 ▸ hi) = w.pieces[i]) else decide (w.held[i]'(e4 ▸ hi) = ⟨#[]⟩) && !w.heard[i]'(e3 ▸ hi) := by
      unfold okAt; rw [getD_mem (e5 ▸ hi), getD_mem (e4 ▸ hi), getD_mem hi, getD_mem (e3 ▸ hi)]
    cases hh : w.has[i]'(e5 ▸ hi) with
    | true =>
      rw [hh] at ho
      by_cases he : w.held[i]'(e4 ▸ hi) = w.pieces[i]
      · refine .inl ⟨(), trivial, ?_, by simp [List.all_cons, ho, he]⟩
        simp [he]
      · refine .inr ?_
        simp [he, List.all_cons, ho]
    | false =>
      rw [hh] at ho
      by_cases he : w.held[i]'(e4 ▸ hi) = ⟨#[]⟩
      · cases hhd : w.heard[i]'(e3 ▸ hi) with
        | true => refine .inr ?_; simp [he, hhd, List.all_cons, ho]
        | false =>
          refine .inl ⟨(), trivial, ?_, by simp [List.all_cons, ho, he, hhd]⟩
          simp [he]
      · refine .inr ?_
        simp [he, List.all_cons, ho]
  · intro _ rec _
    unfold P_impl_GoodWindow.l0
    have hd : (List.range w.pieces.length).drop w.pieces.length = [] := List.drop_eq_nil_of_le (by simp)
    simp only [u10_list, bd_some, qBin_lss, qB_bool, Int.lt_irrefl, decide_false, cond_false, hw0, c1_some, u1_list, qBin_eql, hd, List.all_nil, Bool.true_and]
    have hfw : DV.agg [.sl [.sc] (w.pieces.map DV.str), .int .i64 w.size, .sl [.sc] (w.heard.map eBool), .sl shFrm (w.line.map Frm.enc), .sl [.sc] (w.held.map DV.str), .sl [.sc] (w.has.map eBool), .int .i64 w.told] = w.enc := rfl
    rw [hfw]
    by_cases ht : w.told = ldT w.has
    · simp only [ht, decide_true, cond_true, Bool.true_and]
      have har' : cq S_impl_areAll_impl_Frame (qfn P N (n + 6) n_impl_areAll_impl_Frame) [.sl shFrm (w.line.map Frm.enc), .fn n_impl_Window_isFrame [w.enc] []] [] = _ := har
      rw [har']
      simp only [c1_some, u1_list]
    · simp only [ht, decide_false, cond_false, Bool.false_and]
theorem goodS {N n : Nat} (hN : 4294967296 ≤ N) (w : Win) (h0 : w.pieces.length ≤ 1048576) (h1 : w.heard.length ≤ 1048576) (h2 : w.line.length ≤ 1048576) (h4 : w.held.length ≤ 1048576) (h5 : w.has.length ≤ 1048576) (μ : PH) :
    cq S_spec_GoodWindow (qfn P N (n + 7) n_spec_GoodWindow) [w.enc] μ = some ([.bool (goodW w)], μ) := by
  rw [cq_sn (args' := [w.enc]) (res := [.bool (goodW w)]) rfl (by simp only [sns, S_spec_GoodWindow, sn_cl _ _ (Win.cl w), Option.bind_some]) ?_ rfl, adL_sc rfl]
  refine run1_of (ν := []) rfl rfl rfl (r := [.bool (goodW w)]) ?_ (resO_sc rfl)
  rw [spec_GoodWindow_eq]
  unfold P_spec_GoodWindow goodW
  have hw0 := told_ok (N := N) (n := n + 5) hN w.has h5 (μ := []) (args := [.sl [.sc] (w.has.map eBool)]) (by simp only [sns, S_spec_l9Told, sn_cl _ _ (bools_cl w.has), Option.bind_some])
  simp only [a7_win, l9Pieces_ok (n := n + 5) hN w.pieces h0, c1_some, u1_list, qUn_not, bd_some, qB_bool, qLen_sl, List.length_map, qBin_gtr, qBin_neq, l1In_ok, hw0]
  cases e1 : arePc w.pieces
  · simp
  by_cases e2 : 1 ≤ w.size ∧ w.size ≤ 12
  rotate_left
  · have : (decide (1 ≤ w.size) && decide (w.size ≤ 12)) = false := by
      by_cases g1 : 1 ≤ w.size <;> by_cases g2 : w.size ≤ 12 <;> simp [g1, g2]
      exact e2 ⟨g1, g2⟩
    simp [this]
  have e2b : (decide (1 ≤ w.size) && decide (w.size ≤ 12)) = true := by simp [e2]
  by_cases e3 : w.heard.length = w.pieces.length
  rotate_left
  · simp [e2b, e3, show ¬ ((w.heard.length : Int) = w.pieces.length) by omega]
  by_cases e4 : w.held.length = w.pieces.length
  rotate_left
  · simp [e2b, e3, e4, show ¬ ((w.held.length : Int) = w.pieces.length) by omega]
  by_cases e5 : w.has.length = w.pieces.length
  rotate_left
  · simp [e2b, e3, e4, e5, show ¬ ((w.has.length : Int) = w.pieces.length) by omega]
  by_cases e7 : w.told = ldT w.has
  rotate_left
  · simp [e2b, e3, e4, e5, e7]
  by_cases e6 : w.line.length ≤ 30
  rotate_left
  · simp [e2b, e3, e4, e5, e6, e7, show ((w.line.length : Int) > 30) by omega]
  have q3 : decide (¬ (w.heard.length : Int) = w.pieces.length) = false := decide_eq_false (by omega)
  have q4 : decide (¬ (w.held.length : Int) = w.pieces.length) = false := decide_eq_false (by omega)
  have q5 : decide (¬ (w.has.length : Int) = w.pieces.length) = false := decide_eq_false (by omega)
  have q6 : decide ((w.line.length : Int) > 30) = false := decide_eq_false (by omega)
  have q7 : decide (¬ w.told = (ldT w.has : Int)) = false := decide_eq_false (by simpa using e7)
  simp only [e2b, ne_eq, q3, q4, q5, q6, q7, Bool.not_true, cond_false, e3, e4, e5, e6, decide_eq_true e7, decide_true, Bool.true_and, Bool.and_true]
  refine Eq.trans (by simp) (loop_acc (F := P_spec_GoodWindow.l0 N (qfn P N (n + 6)) 0) (N := N) (σ := Unit) (len := w.pieces.length) (fun i _ => ([.int .i64 (w.pieces.length : Nat), .sl [.sc] (w.pieces.map DV.str), .int .i64 (w.pieces.length : Nat), .int .i64 (i : Nat), .sl [.sc] (w.pieces.map DV.str), .int .i64 w.size, .sl [.sc] (w.heard.map eBool), .sl shFrm (w.line.map Frm.enc), .sl [.sc] (w.held.map DV.str), .sl [.sc] (w.has.map eBool), .int .i64 w.told] : List DV)) (fun _ _ => []) (fun _ _ => True) (fun i _ => some ([DV.bool (((List.range w.pieces.length).drop i).all (okAt w) && w.line.all (isFr w))], []))
    ?_ ?_ w.pieces.length (i := 0) (s := ()) trivial (by omega) (by omega))
  · intro i _ rec hi _
    rw [range_drop hi]
    unfold P_spec_GoodWindow.l0
    simp only [u11_list, bd_some, qBin_lss, qB_bool, Int.ofNat_lt, hi, decide_true, cond_true, qIA_map _ (show [Sh.sc].length = 1 from rfl) (e5 ▸ hi : i < w.has.length), qIA_map _ (show [Sh.sc].length = 1 from rfl) (e4 ▸ hi : i < w.held.length), qIA_map _ (show [Sh.sc].length = 1 from rfl) (e3 ▸ hi : i < w.heard.length), qIA_map _ (show [Sh.sc].length = 1 from rfl) hi, qLd_rp, cells_eBool, cellsD_str, getC_one, List.getElem?_cons_zero, Option.map_some, b2_some, qBin_sneq, qUn_not, qBin_add]
    rw [wrapI (n := (i : Int) + 1) (by constructor <;> omega)]
    have ho : okAt w i = if w.has[i]'(e5 ▸ hi) then decide (w.held[i]'(e4 ▸ hi) = w.pieces[i]) else decide (w.held[i]'(e4 ▸ hi) = ⟨#[]⟩) && !w.heard[i]'(e3 ▸ hi) := by
      unfold okAt; rw [getD_mem (e5 ▸ hi), getD_mem (e4 ▸ hi), getD_mem hi, getD_mem (e3 ▸ hi)]
    cases hh : w.has[i]'(e5 ▸ hi) with
    | true =>
      rw [hh] at ho
      by_cases he : w.held[i]'(e4 ▸ hi) = w.pieces[i]
      · refine .inl ⟨(), trivial, ?_, by simp [List.all_cons, ho, he]⟩
        simp [he]
      · refine .inr ?_
        simp [he, List.all_cons, ho]
    | false =>
      rw [hh] at ho
      by_cases he : w.held[i]'(e4 ▸ hi) = ⟨#[]⟩
      · cases hhd : w.heard[i]'(e3 ▸ hi) with
        | true => refine .inr ?_; simp [he, hhd, List.all_cons, ho]
        | false =>
          refine .inl ⟨(), trivial, ?_, by simp [List.all_cons, ho, he, hhd]⟩
          simp [he]
      · refine .inr ?_
        simp [he, List.all_cons, ho]
  · intro _ rec _
    unfold P_spec_GoodWindow.l0
    have hd : (List.range w.pieces.length).drop w.pieces.length = [] := List.drop_eq_nil_of_le (by simp)
    simp only [u11_list, bd_some, qBin_lss, qB_bool, Int.lt_irrefl, decide_false, cond_false, qLen_sl, List.length_map, hd, List.all_nil, Bool.true_and]
    refine Eq.trans (by simp) (loop_acc (F := P_spec_GoodWindow.l1 N (qfn P N (n + 6)) 0) (N := N) (σ := Unit) (len := w.line.length) (fun i _ => ([.int .i64 (w.pieces.length : Nat), .sl shFrm (w.line.map Frm.enc), .int .i64 (w.line.length : Nat), .int .i64 (i : Nat), .sl [.sc] (w.pieces.map DV.str), .int .i64 w.size, .sl [.sc] (w.heard.map eBool), .sl shFrm (w.line.map Frm.enc), .sl [.sc] (w.held.map DV.str), .sl [.sc] (w.has.map eBool), .int .i64 w.told] : List DV)) (fun _ _ => []) (fun _ _ => True) (fun i _ => some ([DV.bool ((w.line.drop i).all (isFr w))], []))
      ?_ ?_ w.line.length (i := 0) (s := ()) trivial (by omega) (by omega))
    · intro i _ rec hi _
      have hx : w.line.drop i = w.line[i] :: w.line.drop (i + 1) := List.drop_eq_getElem_cons hi
      rw [hx]
      unfold P_spec_GoodWindow.l1
      simp only [u11_list, bd_some, qBin_lss, qB_bool, Int.ofNat_lt, hi, decide_true, cond_true, qIA_map _ (show shFrm.length = 3 from rfl) hi, qLd_rp, Frm.get, Option.map_some, b2_some, a3_frm, qBin_geq, qBin_add]
      rw [wrapI (n := (i : Int) + 1) (by constructor <;> omega)]
      generalize w.line[i] = f
      by_cases c1' : f.no < 0
      · refine .inr ?_
        have : isFr w f = false := by unfold isFr; simp [show ¬ (0 ≤ f.no) by omega]
        simp [c1', List.all_cons, this]
      by_cases c2' : f.no ≥ (w.pieces.length : Int)
      · refine .inr ?_
        have : isFr w f = false := by unfold isFr; simp [show ¬ (f.no ≤ (w.pieces.length : Int) - 1) by omega]
        simp [c1', c2', List.all_cons, this]
      have hp : (decide (0 ≤ f.no) && decide (f.no ≤ (w.pieces.length : Int) - 1)) = true := by simp; omega
      rw [iaF (g := eBool) (sh := [.sc]) (z := 1) (kk := .i64) rfl (by omega) (by omega), iaF (g := DV.str) (sh := [.sc]) (z := 1) (kk := .i64) rfl (by omega) (by omega)]
      simp only [c1', c2', decide_false, cond_false, qLd_rp, cells_eBool, cellsD_str, getC_one, List.getElem?_cons_zero, Option.map_some, b2_some, bd_some, qBin_sneq, qB_bool, qUn_not]
      cases hb : f.back with
      | true =>
        have hF : isFr w f = (decide (f.text = ⟨#[]⟩) && w.has[f.no.toNat]'(by omega)) := by unfold isFr; rw [hp, hb, getD_mem (by omega)]; rfl
        by_cases ht : f.text = ⟨#[]⟩
        · cases hh : w.has[f.no.toNat]'(by omega) with
          | true =>
            refine .inl ⟨(), trivial, ?_, by simp [List.all_cons, hF, ht, hh]⟩
            simp [ht]
          | false => refine .inr ?_; simp [ht, List.all_cons, hF, hh]
        · refine .inr ?_
          simp [ht, List.all_cons, hF]
      | false =>
        have hF : isFr w f = decide (f.text = w.pieces[f.no.toNat]'(by omega)) := by unfold isFr; rw [hp, hb, getD_mem (l := w.pieces) (by omega)]; rfl
        by_cases ht : f.text = w.pieces[f.no.toNat]'(by omega)
        · refine .inl ⟨(), trivial, ?_, by simp [List.all_cons, hF, ← ht]⟩
          simp [← ht]
        · refine .inr ?_
          simp [ht, List.all_cons, hF]
    · intro _ rec _
      unfold P_spec_GoodWindow.l1
      simp
theorem goodW_ok {w : Win} (h : goodW w = true) : WOk w := by
  unfold goodW arePc at h
  simp only [Bool.and_eq_true, decide_eq_true_eq] at h
  refine ⟨by omega, by omega, by omega, by omega, by omega, by omega, by omega, fun f hf => ?_⟩
  have := List.all_eq_true.1 h.2 f hf
  unfold isFr at this
  simp only [Bool.and_eq_true, decide_eq_true_eq] at this
  omega
end Go.Lg.Pv.Q
namespace Go.Lg.Pv.Q
open Go Go.Lg Go.Lg.Pv
set_option linter.unusedVariables false
set_option linter.unusedSimpArgs false
set_option maxRecDepth 100000

def win0 : Win := ⟨[], 0, [], [], [], [], 0⟩
def outS (w : Win) (s : WStep) : Win × Bool := if goodW w = true then (if (stepW w s).2 = true then ((stepW w s).1, true) else (win0, false)) else (win0, false)
theorem bWin0 : qBuild [.nil, .int .i64 0, .nil, .nil, .nil, .nil, .int .i64 0] [(0, 1, false), (1, 1, false), (2, 1, false), (3, 1, false), (4, 1, false), (5, 1, false), (6, 1, false)] [] = some (.agg [.nil, .int .i64 0, .nil, .nil, .nil, .nil, .int .i64 0]) := rfl
theorem resW0 (ν : PH) : resO [shWin, [.sc]] [.agg [.nil, .int .i64 0, .nil, .nil, .nil, .nil, .int .i64 0], .bool false] ν = some ([win0.enc, .bool false], ν) := rfl
theorem stWw (w : Win) {μ : PH} {id i : Nat} {cs : List DV} (hb : bk μ id 0 = some (wB cs)) (hc : cs.length = 7 := by rfl) : qSt μ 7 (.ptr id 0 0 0) (winOwn i w) = some (μ.set id (wB (wC i (.own (i + 2) 0 0 w.line.length w.line.length false) w))) := by
  rw [winOwn_wC, qSt_ptr (size := 7) (cs := wC i (.own (i + 2) 0 0 w.line.length w.line.length false) w) hb (e := .agg cs) rfl rfl (by rw [cellsD_agg, hc]; decide) rfl]
  match cs, hc with
  | [a, b, c, d, e, f, g], _ => rfl
theorem ldWw (w : Win) {μ : PH} {id i : Nat} (hb : bk μ id 0 = some (wB (wC i (.own (i + 2) 0 0 w.line.length w.line.length false) w))) : qLd μ 7 true (.ptr id 0 0 0) = some (winOwn i w, μ) := by
  rw [winOwn_wC]; exact qLd_ok hb (e := .agg (wC i (.own (i + 2) 0 0 w.line.length w.line.length false) w)) rfl rfl rfl
theorem wok_len {w : Win} (h : WOk w) : w.pieces.length ≤ 1048576 ∧ w.heard.length ≤ 1048576 ∧ w.line.length ≤ 1048576 ∧ w.held.length ≤ 1048576 ∧ w.has.length ≤ 1048576 := by
  have := h.h1; have := h.h2; have := h.h3; have := h.n; have := h.l; omega
theorem stepI {N n : Nat} (hN : 4294967296 ≤ N) (w : Win) (s : WStep) (h0 : w.pieces.length ≤ 1048576) (h1 : w.heard.length ≤ 1048576) (h2 : w.line.length ≤ 1048576) (h3 : w.held.length ≤ 1048576) (h4 : w.has.length ≤ 1048576) :
    run1 S_impl_StepWindow (qfn P N (n + 8) n_impl_StepWindow) [w.enc, s.enc] = some ([(outS w s).1.enc, .bool (outS w s).2], []) := by
  have hgd := goodI (n := n) hN w h0 h1 h2 h3 h4 []
  unfold outS
  by_cases hg : goodW w = true
  · have h := goodW_ok hg
    have hw := stepW_ok h s
    rw [if_pos hg]
    have e1 := cq_ownW (N := N) (n := n + 5) w h0 h1 h2 h3 h4 (μ := []) (args := [w.enc]) (by simp only [sns, S_impl_Window_own, sn_cl _ _ (Win.cl w), Option.bind_some])
    have hal : qAl (wM w) false [.sl [.sc], .sc, .sl [.sc], .sl [.sc, .sc, .sc], .sl [.sc], .sl [.sc], .sc] true [.nil, .int .i64 0, .nil, .nil, .nil, .nil, .int .i64 0] = some (.ptr 5 0 0 0, wM w ++ [wB wZ]) := rfl
    have e3 := stWw w (μ := wM w ++ [wB wZ]) (id := 5) (i := 0) rfl
    have hws : WS ((wM w ++ [wB wZ]).set 5 (wB (wC 0 (.own (0 + 2) 0 0 w.line.length w.line.length false) w))) w (.own (0 + 2) 0 0 w.line.length w.line.length false) :=
      ⟨rfl, .inr ⟨WB.own rfl rfl rfl rfl rfl, _, _, _, _, _, rfl, by decide⟩⟩
    generalize (wM w ++ [wB wZ]).set 5 (wB (wC 0 (.own (0 + 2) 0 0 w.line.length w.line.length false) w)) = μ1 at e3 hws
    obtain ⟨μ', cell', q1, q2, _⟩ := step_ok (N := N) (n := n + 4) hN s hws h
    cases h5 : (stepW w s).2 with
    | false =>
      refine run1_of rfl rfl rfl (r := [.agg [.nil, .int .i64 0, .nil, .nil, .nil, .nil, .int .i64 0], .bool false]) (ν := μ') ?_ (resW0 _)
      rw [impl_StepWindow_eq]
      unfold P_impl_StepWindow
      simp only [a7_win, fold_win, a2_wst]
      have q1' : qfn P N (n + 7) n_impl_Window_step [.ptr 5 0 0 0, .agg [.int .i64 s.kind, .int .i64 s.k]] μ1 = _ := q1
      rw [h5] at q1'
      simp only [hgd, c1_some, u1_list, qUn_not, bd_some, qB_bool, hg, Bool.not_true, cond_false, e1, List.nil_append, List.length_nil, hal, b2_some, e3, q1', Bool.not_false, cond_true, bWin0, a7_agg]
    | true =>
      obtain ⟨ln', μ2, p1, p2⟩ : ∃ ln' μ2, qLd μ' 7 true (.ptr 5 0 0 0) = some (.agg (wC 0 ln' (stepW w s).1), μ2) ∧ WB μ2 0 (stepW w s).1 ln' := by
        rcases q2.or_ with ⟨g, hwb⟩ | ⟨hwb, il, vl, o, m, c, g, g5⟩
        · have hst := q2.st
          rw [g] at hst
          generalize (stepW w s).1 = w1 at *
          have hline : w1.line = [] := by
            have hl := hwb.lna
            generalize w1.line = l at hl
            cases hl; rfl
          have hpl := bk_lt hst
          have e2 : qLd μ' 7 true (.ptr 5 0 0 0) = some (.agg (wC 0 (.own μ'.length 0 0 0 0 false) w1), (μ' ++ [(⟨0, shFrm, [], true, false, true⟩ : PB)]).set 5 (wB (wC 0 (.own μ'.length 0 0 0 0 false) w1))) := by
            have he : (wB (wC 0 (.sl shFrm []) w1)).el[0]? = some (.agg (wC 0 (.sl shFrm []) w1)) := rfl
            have hk : (((cellsD (.agg (wC 0 (.sl shFrm []) w1))).drop 0).take 7).all okC = false := rfl
            have hk2 : (((cellsD (.agg (wC 0 (.sl shFrm []) w1))).drop 0).take 7).all (fun c => okC c || isSl c) = true := rfl
            simp only [qLd, hst, Option.bind_some, he, hk, hk2]
            rfl
          have hold : ∀ k ver, k < μ'.length → k ≠ 5 → bk ((μ' ++ [(⟨0, shFrm, [], true, false, true⟩ : PB)]).set 5 (wB (wC 0 (.own μ'.length 0 0 0 0 false) w1))) k ver = bk μ' k ver := fun k ver hk hkp => by
            rw [bk_set_ne (Ne.symm hkp)]; unfold bk; rw [List.getElem?_append_left hk]
          refine ⟨_, _, e2, ⟨?_, ?_, ?_, ?_, ?_, ?_⟩⟩
          · rw [hold 0 0 (bk_lt hwb.b0) (by decide)]; exact hwb.b0
          · rw [hold (0 + 1) 0 (bk_lt hwb.b1) (by decide)]; exact hwb.b1
          · rw [hold (0 + 3) 0 (bk_lt hwb.b3) (by decide)]; exact hwb.b3
          · rw [hold (0 + 4) 0 (bk_lt hwb.b4) (by decide)]; exact hwb.b4
          · rw [hline]
            refine .own _ _ _ _ _ ⟨0, shFrm, [], true, false, true⟩ _ ?_ ⟨rfl, rfl, rfl, rfl, by simp⟩ (Nat.le_refl _)
            rw [bk_set_ne (by omega)]
            simp [bk]
          · intro il hi
            cases hi
            have q0 := bk_lt hwb.b0; have q1 := bk_lt hwb.b1; have q3 := bk_lt hwb.b3; have q4 := bk_lt hwb.b4
            omega
        · subst g
          exact ⟨_, μ', qLd_ok q2.st (e := .agg (wC 0 (.own il vl o m c false) (stepW w s).1)) rfl rfl rfl, hwb⟩
      obtain ⟨k0, k1, k2, k3, k4⟩ := wok_len hw
      have e6 := cq_ownW (N := N) (n := n + 5) (stepW w s).1 k0 k1 k2 k3 k4 (μ := μ2) (args := [.agg (wC 0 ln' (stepW w s).1)]) (by simp only [sns, S_impl_Window_own]; rw [p2.sn]; rfl)
      obtain ⟨ν', hr⟩ := res2 true (WB.app μ2 (stepW w s).1)
      refine run1_of rfl rfl rfl (r := [winOwn μ2.length (stepW w s).1, .bool true]) (ν := μ2 ++ wM (stepW w s).1) ?_ hr
      rw [impl_StepWindow_eq]
      unfold P_impl_StepWindow
      simp only [a7_win, fold_win, a2_wst]
      have q1' : qfn P N (n + 7) n_impl_Window_step [.ptr 5 0 0 0, .agg [.int .i64 s.kind, .int .i64 s.k]] μ1 = _ := q1
      rw [h5] at q1'
      simp only [hgd, c1_some, u1_list, qUn_not, bd_some, qB_bool, hg, Bool.not_true, cond_false, e1, List.nil_append, List.length_nil, hal, b2_some, e3, q1', p1, e6, a7_winOwn, fold_winOwn]
  · rw [if_neg hg]
    refine run1_of rfl rfl rfl (r := [.agg [.nil, .int .i64 0, .nil, .nil, .nil, .nil, .int .i64 0], .bool false]) (ν := []) ?_ (resW0 _)
    rw [impl_StepWindow_eq]
    unfold P_impl_StepWindow
    simp only [a7_win, fold_win, a2_wst, hgd, c1_some, u1_list, qUn_not, bd_some, qB_bool, hg, Bool.not_false, cond_true, bWin0, a7_agg]
/-- a step of the reference's, as its caller sees it -/
theorem cq_stp {N n : Nat} (hN : 4294967296 ≤ N) (w : Win) (s : WStep) (h : WOk w) {μ : PH} {i : Nat} {ln : DV} (hwb : WB μ i w ln) :
    ∃ ν, cq S_spec_l9Step (qfn P N (n + 3) n_spec_l9Step) [.agg (wC i ln w), s.enc] μ = some ([winOwn ν.length (stepW w s).1, .bool (stepW w s).2], ν ++ wM (stepW w s).1) ∧ ν.length = μ.length ∧ ∀ k, k ≠ i → k ≠ i + 1 → k ≠ i + 3 → k ≠ i + 4 → (∀ il, idO ln = some il → k ≠ il) → ν[k]? = μ[k]? := by
  obtain ⟨ν, h1, h2, h3⟩ := cq_mvW (s := S_spec_l9Step) (s2 := [.sc, .sc]) rfl rfl (WStep.cl s) hwb (l9Step_run (N := N) (n := n) hN w s h) rfl
  refine ⟨ν, ?_, h2, h3⟩
  rw [h1, adL_w]; rfl
theorem stepS {N n : Nat} (hN : 4294967296 ≤ N) (w : Win) (s : WStep) (h0 : w.pieces.length ≤ 1048576) (h1 : w.heard.length ≤ 1048576) (h2 : w.line.length ≤ 1048576) (h3 : w.held.length ≤ 1048576) (h4 : w.has.length ≤ 1048576) :
    run1 S_spec_StepWindow (qfn P N (n + 8) n_spec_StepWindow) [w.enc, s.enc] = some ([(outS w s).1.enc, .bool (outS w s).2], []) := by
  have hgd := goodS (n := n) hN w h0 h1 h2 h3 h4 []
  unfold outS
  by_cases hg : goodW w = true
  · have h := goodW_ok hg
    have hw := stepW_ok h s
    rw [if_pos hg]
    have e1 := cq_l9Own (N := N) (n := n + 6) w h0 h1 h2 h3 h4 (μ := [wB wZ]) (args := [w.enc]) (by simp only [sns, S_spec_l9Own, sn_cl _ _ (Win.cl w), Option.bind_some])
    obtain ⟨ν, q1, q2, q3⟩ := cq_stp (N := N) (n := n + 4) hN w s h (WB.app [wB wZ] w)
    generalize hp : stepW w s = p at hw q1 ⊢
    have hb : bk (ν ++ wM p.1) 0 0 = some (wB wZ) := by
      have hl : 0 < ν.length := by rw [q2]; simp
      unfold bk; rw [List.getElem?_append_left hl, q3 0 (by decide) (by decide) (by decide) (by decide) (fun il hi => by cases hi; decide)]; rfl
    have e3 := stWw p.1 (i := ν.length) hb rfl
    have hν : ν.length = 6 := by rw [q2]; rfl
    have e4 : bk ((ν ++ wM p.1).set 0 (wB (wC ν.length (.own (ν.length + 2) 0 0 p.1.line.length p.1.line.length false) p.1))) 0 0 = some (wB (wC ν.length (.own (ν.length + 2) 0 0 p.1.line.length p.1.line.length false) p.1)) := bk_wB hb
    have e5 := ldWw p.1 e4
    have hwb2 : WB ((ν ++ wM p.1).set 0 (wB (wC ν.length (.own (ν.length + 2) 0 0 p.1.line.length p.1.line.length false) p.1))) ν.length p.1 (.own (ν.length + 2) 0 0 p.1.line.length p.1.line.length false) :=
      (WB.app ν p.1).mono fun k ver hk => bk_set_ne (by
        rcases hk with hk | hk | hk | hk | hk
        · omega
        · omega
        · omega
        · omega
        · cases hk; omega)
    generalize (ν ++ wM p.1).set 0 (wB (wC ν.length (.own (ν.length + 2) 0 0 p.1.line.length p.1.line.length false) p.1)) = M2 at e3 e5 hwb2
    obtain ⟨k0, k1, k2, k3, k4⟩ := wok_len hw
    have e6 := cq_l9Own (N := N) (n := n + 6) p.1 k0 k1 k2 k3 k4 (μ := M2) (args := [winOwn ν.length p.1]) (by simp only [sns, S_spec_l9Own]; rw [winOwn_wC, hwb2.sn]; rfl)
    have hal : qAl [] false [.sl [.sc], .sc, .sl [.sc], .sl [.sc, .sc, .sc], .sl [.sc], .sl [.sc], .sc] true [.nil, .int .i64 0, .nil, .nil, .nil, .nil, .int .i64 0] = some (.ptr 0 0 0 0, [wB wZ]) := rfl
    have q1' : cq S_spec_l9Step (qfn P N (n + 7) n_spec_l9Step) [winOwn 1 w, .agg [.int .i64 s.kind, .int .i64 s.k]] ([wB wZ] ++ wM w) = _ := q1
    cases h5 : p.2 with
    | false =>
      refine run1_of rfl rfl rfl (r := [.agg [.nil, .int .i64 0, .nil, .nil, .nil, .nil, .int .i64 0], .bool false]) (ν := M2) ?_ (resW0 _)
      rw [spec_StepWindow_eq]
      unfold P_spec_StepWindow
      simp only [a7_win, fold_win, a2_wst, hgd, c1_some, u1_list, qUn_not, bd_some, qB_bool, hg, Bool.not_true, cond_false, hal, b2_some, e1, List.length_cons, List.length_nil, Nat.zero_add, q1', c2_some, u2_list, e3, h5, Bool.not_false, cond_true, bWin0, a7_agg]
    | true =>
      obtain ⟨ν', hr⟩ := res2 true (WB.app M2 p.1)
      refine run1_of rfl rfl rfl (r := [winOwn M2.length p.1, .bool true]) (ν := M2 ++ wM p.1) ?_ hr
      rw [spec_StepWindow_eq]
      unfold P_spec_StepWindow
      simp only [a7_win, fold_win, a2_wst, hgd, c1_some, u1_list, qUn_not, bd_some, qB_bool, hg, Bool.not_true, cond_false, hal, b2_some, e1, List.length_cons, List.length_nil, Nat.zero_add, q1', c2_some, u2_list, e3, h5, e5, e6, a7_winOwn, fold_winOwn]
  · rw [if_neg hg]
    refine run1_of rfl rfl rfl (r := [.agg [.nil, .int .i64 0, .nil, .nil, .nil, .nil, .int .i64 0], .bool false]) (ν := []) ?_ (resW0 _)
    rw [spec_StepWindow_eq]
    unfold P_spec_StepWindow
    simp only [a7_win, fold_win, a2_wst, hgd, c1_some, u1_list, qUn_not, bd_some, qB_bool, hg, Bool.not_false, cond_true, bWin0, a7_agg]
theorem outS_len (w : Win) (s : WStep) : (outS w s).1.pieces.length ≤ 13 ∧ (outS w s).1.heard.length ≤ 13 ∧ (outS w s).1.line.length ≤ 30 ∧ (outS w s).1.held.length ≤ 13 ∧ (outS w s).1.has.length ≤ 13 := by
  unfold outS
  split
  · rename_i h
    have hw := stepW_ok (goodW_ok h) s
    split
    · have := hw.h1; have := hw.h2; have := hw.h3; have := hw.n; have := hw.l
      refine ⟨hw.n, ?_, hw.l, ?_, ?_⟩
      · show (stepW w s).1.heard.length ≤ 13; omega
      · show (stepW w s).1.held.length ≤ 13; omega
      · show (stepW w s).1.has.length ≤ 13; omega
    · decide
  · decide
section
variable {N n : Nat} (hN : 4294967296 ≤ N)
theorem Q_toWs (s : WStep) (μ : PH) : cq S_laws_toWinStep (qfn P N (n + 9) n_laws_toWinStep) [s.enc] μ = some ([s.enc], μ) := by
  rw [cq_sn (args' := [s.enc]) rfl (by simp only [sns, S_laws_toWinStep, sn_cl _ _ (WStep.cl s), Option.bind_some]) (toWinStep_ok s) rfl]; rfl
include hN
theorem Q_stS (w : Win) (s : WStep) (h0 : w.pieces.length ≤ 1048576) (h1 : w.heard.length ≤ 1048576) (h2 : w.line.length ≤ 1048576) (h3 : w.held.length ≤ 1048576) (h4 : w.has.length ≤ 1048576) {μ : PH} {i : Nat} (b0 : bk μ i 0 = some (tB 0 w.pieces)) (b1 : bk μ (i + 1) 0 = some (boolB w.heard)) (b2 : bk μ (i + 2) 0 = some (frmB w.line)) (b3 : bk μ (i + 3) 0 = some (tB 0 w.held)) (b4 : bk μ (i + 4) 0 = some (boolB w.has)) :
    cq S_spec_StepWindow (qfn P N (n + 9) n_spec_StepWindow) [winOwn i w, s.enc] μ = some ([winOwn μ.length (outS w s).1, .bool (outS w s).2], μ ++ wM (outS w s).1) := by
  rw [cq_sn rfl (by simp only [sns, S_spec_StepWindow, snWin b0 b1 b2 b3 b4, sn_cl _ _ (WStep.cl s), Option.bind_some]) (stepS (n := n + 1) hN w s h0 h1 h2 h3 h4) rfl, adL_w]; rfl
theorem Q_stI (w : Win) (s : WStep) (h0 : w.pieces.length ≤ 1048576) (h1 : w.heard.length ≤ 1048576) (h2 : w.line.length ≤ 1048576) (h3 : w.held.length ≤ 1048576) (h4 : w.has.length ≤ 1048576) {μ : PH} {i : Nat} (b0 : bk μ i 0 = some (tB 0 w.pieces)) (b1 : bk μ (i + 1) 0 = some (boolB w.heard)) (b2 : bk μ (i + 2) 0 = some (frmB w.line)) (b3 : bk μ (i + 3) 0 = some (tB 0 w.held)) (b4 : bk μ (i + 4) 0 = some (boolB w.has)) :
    cq S_impl_StepWindow (qfn P N (n + 9) n_impl_StepWindow) [winOwn i w, s.enc] μ = some ([winOwn μ.length (outS w s).1, .bool (outS w s).2], μ ++ wM (outS w s).1) := by
  rw [cq_sn rfl (by simp only [sns, S_impl_StepWindow, snWin b0 b1 b2 b3 b4, sn_cl _ _ (WStep.cl s), Option.bind_some]) (stepI (n := n + 1) hN w s h0 h1 h2 h3 h4) rfl, adL_w]; rfl
theorem law_step (w : Win) (hw : w.ok) (s : WStep) (hs : s.ok) : ∃ μ', qfn P N (n + 10) n_laws_FnExactStepWindow [w.enc, s.enc] [] = some ([.bool true], μ') := by
  rw [laws_FnExactStepWindow_eq]
  unfold P_laws_FnExactStepWindow
  simp only [a7_win, fold_win, a2_wst]
  have hfs : DV.agg [.int .i64 s.kind, .int .i64 s.k] = s.enc := rfl
  simp only [hfs]
  rw [cq_sn (args' := [w.enc, .int .i64 1048576]) rfl (by simp only [sns, S_laws_szWindow, sn_cl _ _ (Win.cl w), snI, Option.bind_some]) (szWindow_ok (n := n + 6) hN w hw 1048576 (by decide) (by decide)) rfl, adL_sc rfl]
  simp only [c1_some, u1_list, qBin_lss, bd_some, qB_bool]
  by_cases hneg : szWin w 1048576 < 0
  · exact ⟨_, by simp only [hneg, decide_true, cond_true]; rfl⟩
  obtain ⟨g0, g1, g2, g3, g4, _⟩ := szWin_bd hneg
  have h0 : w.pieces.length ≤ 1048576 := by omega
  have h1 : w.heard.length ≤ 1048576 := by omega
  have h2 : w.line.length ≤ 1048576 := by omega
  have h3 : w.held.length ≤ 1048576 := by omega
  have h4 : w.has.length ≤ 1048576 := by omega
  simp only [hneg, decide_false, cond_false]
  have hg := outS_len w s
  generalize hO : outS w s = g at hg
  have b0 : g.1.pieces.length ≤ 1048576 := by omega
  have b1 : g.1.heard.length ≤ 1048576 := by omega
  have b2 : g.1.line.length ≤ 1048576 := by omega
  have b3 : g.1.held.length ≤ 1048576 := by omega
  have b4 : g.1.has.length ≤ 1048576 := by omega
  have hk1 : ¬ (totWin 1 w < 0) := by unfold totWin; omega
  have hk2 : ¬ (totWin 1 g.1 < 0) := by unfold totWin; omega
  simp only [c1_some, u1_list, c2_some, u2_list, b2_some, bd_some, List.length_cons, List.length_nil, List.cons_append, List.nil_append, Nat.zero_add, Nat.reduceAdd, List.set_cons_succ, List.set_cons_zero, wM, alW]
  rw [Q_toWin hN w h0 h1 h2 h3 h4]
  simp only [c1_some, u1_list, c2_some, u2_list, b2_some, bd_some, List.length_cons, List.length_nil, List.cons_append, List.nil_append, Nat.zero_add, Nat.reduceAdd, List.set_cons_succ, List.set_cons_zero, wM]
  rw [Q_toWs s]
  simp only [c1_some, u1_list, c2_some, u2_list, b2_some, bd_some, List.length_cons, List.length_nil, List.cons_append, List.nil_append, Nat.zero_add, Nat.reduceAdd, List.set_cons_succ, List.set_cons_zero, wM]
  rw [Q_stS hN w s h0 h1 h2 h3 h4 rfl rfl rfl rfl rfl, hO]
  simp only [c1_some, u1_list, c2_some, u2_list, b2_some, bd_some, List.length_cons, List.length_nil, List.cons_append, List.nil_append, Nat.zero_add, Nat.reduceAdd, List.set_cons_succ, List.set_cons_zero, wM]
  rw [stWw g.1 (i := 6) rfl]
  simp only [c1_some, u1_list, c2_some, u2_list, b2_some, bd_some, List.length_cons, List.length_nil, List.cons_append, List.nil_append, Nat.zero_add, Nat.reduceAdd, List.set_cons_succ, List.set_cons_zero, wM]
  rw [Q_toWin hN w h0 h1 h2 h3 h4]
  simp only [c1_some, u1_list, c2_some, u2_list, b2_some, bd_some, List.length_cons, List.length_nil, List.cons_append, List.nil_append, Nat.zero_add, Nat.reduceAdd, List.set_cons_succ, List.set_cons_zero, wM, a7_winOwn, alW]
  rw [Q_toWs s]
  simp only [c1_some, u1_list, c2_some, u2_list, b2_some, bd_some, List.length_cons, List.length_nil, List.cons_append, List.nil_append, Nat.zero_add, Nat.reduceAdd, List.set_cons_succ, List.set_cons_zero, wM, fold_winOwn]
  rw [Q_stI hN w s h0 h1 h2 h3 h4 rfl rfl rfl rfl rfl, hO]
  simp only [c1_some, u1_list, c2_some, u2_list, b2_some, bd_some, List.length_cons, List.length_nil, List.cons_append, List.nil_append, Nat.zero_add, Nat.reduceAdd, List.set_cons_succ, List.set_cons_zero, wM]
  rw [stWw g.1 (i := 17) rfl]
  simp only [c1_some, u1_list, c2_some, u2_list, b2_some, bd_some, List.length_cons, List.length_nil, List.cons_append, List.nil_append, Nat.zero_add, Nat.reduceAdd, List.set_cons_succ, List.set_cons_zero, wM]
  rw [ldWw g.1 (i := 17) rfl]
  simp only [c1_some, u1_list, c2_some, u2_list, b2_some, bd_some, List.length_cons, List.length_nil, List.cons_append, List.nil_append, Nat.zero_add, Nat.reduceAdd, List.set_cons_succ, List.set_cons_zero, wM]
  rw [ldWw g.1 (i := 6) rfl]
  simp only [c1_some, u1_list, c2_some, u2_list, b2_some, bd_some, List.length_cons, List.length_nil, List.cons_append, List.nil_append, Nat.zero_add, Nat.reduceAdd, List.set_cons_succ, List.set_cons_zero, wM]
  rw [Q_eqWin hN g.1 b0 b1 b2 b3 b4 rfl rfl rfl rfl rfl rfl rfl rfl rfl rfl]
  simp only [c1_some, u1_list, c2_some, u2_list, b2_some, bd_some, List.length_cons, List.length_nil, List.cons_append, List.nil_append, Nat.zero_add, Nat.reduceAdd, List.set_cons_succ, List.set_cons_zero, wM, qUn_not, qBin_lss, qBin_neq, qBin_bne, qB_bool, Bool.not_true, cond_false, decide_false, beq_self_eq_true, ne_eq, not_true_eq_false]
  rw [Q_toWin hN w h0 h1 h2 h3 h4]
  simp only [c1_some, u1_list, c2_some, u2_list, b2_some, bd_some, List.length_cons, List.length_nil, List.cons_append, List.nil_append, Nat.zero_add, Nat.reduceAdd, List.set_cons_succ, List.set_cons_zero, wM]
  rw [Q_eqWin hN w h0 h1 h2 h3 h4 rfl rfl rfl rfl rfl rfl rfl rfl rfl rfl]
  simp only [c1_some, u1_list, c2_some, u2_list, b2_some, bd_some, List.length_cons, List.length_nil, List.cons_append, List.nil_append, Nat.zero_add, Nat.reduceAdd, List.set_cons_succ, List.set_cons_zero, wM, qUn_not, qBin_lss, qBin_neq, qBin_bne, qB_bool, Bool.not_true, cond_false, decide_false, beq_self_eq_true, ne_eq, not_true_eq_false]
  rw [markWindow_ok (n := n + 6) hN w 1 (by decide) (by decide) h0 h1 h2 h3 h4 rfl rfl rfl rfl rfl]
  simp only [c1_some, u1_list, c2_some, u2_list, b2_some, bd_some, List.length_cons, List.length_nil, List.cons_append, List.nil_append, Nat.zero_add, Nat.reduceAdd, List.set_cons_succ, List.set_cons_zero, wM, hk1, qUn_not, qBin_lss, qBin_neq, qBin_bne, qB_bool, Bool.not_true, cond_false, decide_false, beq_self_eq_true, ne_eq, not_true_eq_false]
  rw [ldWw g.1 (i := 17) rfl]
  simp only [c1_some, u1_list, c2_some, u2_list, b2_some, bd_some, List.length_cons, List.length_nil, List.cons_append, List.nil_append, Nat.zero_add, Nat.reduceAdd, List.set_cons_succ, List.set_cons_zero, wM]
  rw [ldWw g.1 (i := 6) rfl]
  simp only [c1_some, u1_list, c2_some, u2_list, b2_some, bd_some, List.length_cons, List.length_nil, List.cons_append, List.nil_append, Nat.zero_add, Nat.reduceAdd, List.set_cons_succ, List.set_cons_zero, wM]
  rw [Q_eqWin hN g.1 b0 b1 b2 b3 b4 rfl rfl rfl rfl rfl rfl rfl rfl rfl rfl]
  simp only [c1_some, u1_list, c2_some, u2_list, b2_some, bd_some, List.length_cons, List.length_nil, List.cons_append, List.nil_append, Nat.zero_add, Nat.reduceAdd, List.set_cons_succ, List.set_cons_zero, wM, qUn_not, qBin_lss, qBin_neq, qBin_bne, qB_bool, Bool.not_true, cond_false, decide_false, beq_self_eq_true, ne_eq, not_true_eq_false]
  rw [ldWw g.1 (i := 17) rfl]
  simp only [c1_some, u1_list, c2_some, u2_list, b2_some, bd_some, List.length_cons, List.length_nil, List.cons_append, List.nil_append, Nat.zero_add, Nat.reduceAdd, List.set_cons_succ, List.set_cons_zero, wM]
  rw [markWindow_ok (n := n + 6) hN g.1 1 (by decide) (by decide) b0 b1 b2 b3 b4 rfl rfl rfl rfl rfl]
  simp only [c1_some, u1_list, c2_some, u2_list, b2_some, bd_some, List.length_cons, List.length_nil, List.cons_append, List.nil_append, Nat.zero_add, Nat.reduceAdd, List.set_cons_succ, List.set_cons_zero, wM]
  rw [ldWw g.1 (i := 17) rfl]
  simp only [c1_some, u1_list, c2_some, u2_list, b2_some, bd_some, List.length_cons, List.length_nil, List.cons_append, List.nil_append, Nat.zero_add, Nat.reduceAdd, List.set_cons_succ, List.set_cons_zero, wM]
  rw [Q_heldWin hN g.1 1 (by decide) (by decide) b0 b1 b2 b3 b4 rfl rfl rfl rfl rfl]
  simp only [c1_some, u1_list, c2_some, u2_list, b2_some, bd_some, List.length_cons, List.length_nil, List.cons_append, List.nil_append, Nat.zero_add, Nat.reduceAdd, List.set_cons_succ, List.set_cons_zero, wM, hk2, alW, qUn_not, qBin_lss, qBin_neq, qBin_bne, qB_bool, Bool.not_true, cond_false, decide_false, beq_self_eq_true, ne_eq, not_true_eq_false]
  rw [Q_toWin hN w h0 h1 h2 h3 h4]
  simp only [c1_some, u1_list, c2_some, u2_list, b2_some, bd_some, List.length_cons, List.length_nil, List.cons_append, List.nil_append, Nat.zero_add, Nat.reduceAdd, List.set_cons_succ, List.set_cons_zero, wM]
  rw [Q_toWs s]
  simp only [c1_some, u1_list, c2_some, u2_list, b2_some, bd_some, List.length_cons, List.length_nil, List.cons_append, List.nil_append, Nat.zero_add, Nat.reduceAdd, List.set_cons_succ, List.set_cons_zero, wM]
  rw [Q_stI hN w s h0 h1 h2 h3 h4 rfl rfl rfl rfl rfl, hO]
  simp only [c1_some, u1_list, c2_some, u2_list, b2_some, bd_some, List.length_cons, List.length_nil, List.cons_append, List.nil_append, Nat.zero_add, Nat.reduceAdd, List.set_cons_succ, List.set_cons_zero, wM]
  rw [stWw g.1 (i := 33) rfl]
  simp only [c1_some, u1_list, c2_some, u2_list, b2_some, bd_some, List.length_cons, List.length_nil, List.cons_append, List.nil_append, Nat.zero_add, Nat.reduceAdd, List.set_cons_succ, List.set_cons_zero, wM]
  rw [ldWw g.1 (i := 33) rfl]
  simp only [c1_some, u1_list, c2_some, u2_list, b2_some, bd_some, List.length_cons, List.length_nil, List.cons_append, List.nil_append, Nat.zero_add, Nat.reduceAdd, List.set_cons_succ, List.set_cons_zero, wM]
  rw [ldWw g.1 (i := 6) rfl]
  simp only [c1_some, u1_list, c2_some, u2_list, b2_some, bd_some, List.length_cons, List.length_nil, List.cons_append, List.nil_append, Nat.zero_add, Nat.reduceAdd, List.set_cons_succ, List.set_cons_zero, wM]
  rw [Q_eqWin hN g.1 b0 b1 b2 b3 b4 rfl rfl rfl rfl rfl rfl rfl rfl rfl rfl]
  simp only [c1_some, u1_list, c2_some, u2_list, b2_some, bd_some, List.length_cons, List.length_nil, List.cons_append, List.nil_append, Nat.zero_add, Nat.reduceAdd, List.set_cons_succ, List.set_cons_zero, wM, qUn_not, qBin_lss, qBin_neq, qBin_bne, qB_bool, Bool.not_true, cond_false, decide_false, beq_self_eq_true, ne_eq, not_true_eq_false]
  rw [ldWw g.1 (i := 17) rfl]
  simp only [c1_some, u1_list, c2_some, u2_list, b2_some, bd_some, List.length_cons, List.length_nil, List.cons_append, List.nil_append, Nat.zero_add, Nat.reduceAdd, List.set_cons_succ, List.set_cons_zero, wM]
  rw [Q_heldWin hN g.1 1 (by decide) (by decide) b0 b1 b2 b3 b4 rfl rfl rfl rfl rfl]
  simp only [c1_some, u1_list, c2_some, u2_list, b2_some, bd_some, List.length_cons, List.length_nil, List.cons_append, List.nil_append, Nat.zero_add, Nat.reduceAdd, List.set_cons_succ, List.set_cons_zero, wM, hk2, qUn_not, qBin_lss, qBin_neq, qBin_bne, qB_bool, Bool.not_true, cond_false, decide_false, beq_self_eq_true, ne_eq, not_true_eq_false]
  exact ⟨_, rfl⟩
end
end Go.Lg.Pv.Q
