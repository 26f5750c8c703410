/- The fold of records: sizes, copies, comparisons. -/
import Derived.Test.YtkamejfgfcbpaaaPackD
import Derived.Test.YtkamejfgfcbpaaaPS0
namespace Go.Lg.Pv.Q
open Go Go.Lg Go.Lg.Pv
set_option linter.unusedVariables false
set_option linter.unusedSimpArgs false

structure Rec where
  kind : Int
  loc : Int
  long : Int
  data : ByteArray
def Rec.enc (r : Rec) : DV := .agg [.int .i64 r.kind, .int .i64 r.loc, .int .i64 r.long, .str r.data]
abbrev shRec : List Sh := [.sc, .sc, .sc, .sc]
def Rec.ok (r : Rec) : Prop := inI r.kind ∧ inI r.loc ∧ inI r.long ∧ (r.data.size : Int) ≤ 9223372036854775807
theorem Rec.get (r : Rec) : getC (cellsD r.enc) 0 4 true = some r.enc := rfl
theorem Rec.cl (r : Rec) : cl r.enc = true := rfl
theorem recs_cl (l : List Rec) : Pv.cl (.sl shRec (l.map Rec.enc)) = true := by simp only [Pv.cl]; exact clL_map Rec.cl l
def szRec (r : Rec) (left : Int) : Int := if left - r.data.size < 0 then -1 else left - r.data.size
theorem szRecord_ok {N n : Nat} (r : Rec) (left : Int) (h0 : 0 ≤ left) (h1 : left ≤ 1048576) (hr : r.ok) :
    run1 S_laws_szRecord (qfn P N (n + 1) n_laws_szRecord) [r.enc, .int .i64 left] = some ([.int .i64 (szRec r left)], []) := by
  have hr := hr.2.2.2
  refine run1_of (ν := []) rfl rfl rfl (r := [.int .i64 (szRec r left)]) ?_ (resO_sc rfl)
  rw [laws_szRecord_eq]
  unfold P_laws_szRecord Rec.enc szRec
  simp
  rw [wrapI (n := left - (r.data.size : Nat)) (by constructor <;> omega)]
  split <;> rfl
def szRecs : List Rec → Int → Int
  | [], left => left
  | r :: l, left => if szRec r left < 0 then -1 else szRecs l (szRec r left)
theorem szRec_le {r : Rec} {left : Int} (h : ¬ szRec r left < 0) : 0 ≤ szRec r left ∧ szRec r left + r.data.size = left := by
  unfold szRec at h ⊢; split <;> rename_i h'
  · rw [if_pos h'] at h; exact absurd (by decide) h
  · omega
theorem szRecs_le : ∀ {l : List Rec} {left : Int}, ¬ szRecs l left < 0 → ∀ r ∈ l, (r.data.size : Int) ≤ left
  | r :: l, left, h, x, hx => by
    simp only [szRecs] at h
    split at h <;> rename_i h'
    · exact absurd (by decide) h
    · have := szRec_le h'
      rcases List.mem_cons.1 hx with rfl | hx
      · omega
      · have := szRecs_le h x hx; omega
theorem szRecordS_ok {N n : Nat} (hN : 4294967296 ≤ N) (l : List Rec) (left : Int) (h0 : 0 ≤ left) (h1 : left ≤ 1048576) (hl : ∀ r ∈ l, r.ok) (hlen : (l.length : Int) ≤ 9223372036854775807) :
    run1 S_laws_szRecordS (qfn P N (n + 2) n_laws_szRecordS) [.sl shRec (l.map Rec.enc), .int .i64 left] = some ([.int .i64 (if left - l.length < 0 then -1 else szRecs l (left - l.length))], []) := by
  refine run1_of (ν := []) rfl rfl rfl (r := [.int .i64 (if left - l.length < 0 then -1 else szRecs l (left - l.length))]) ?_ (resO_sc rfl)
  rw [laws_szRecordS_eq]
  unfold P_laws_szRecordS
  simp
  rw [wrapI (n := left - (l.length : Nat)) (by constructor <;> omega)]
  split <;> rename_i hlt
  · rfl
  refine (loop_acc (σ := Int) (len := l.length) (fun i left => ([.sl shRec (l.map Rec.enc), .int .i64 left, .int .i64 (i : Nat)] : List DV)) (fun _ _ => []) (fun _ left => 0 ≤ left ∧ left ≤ 1048576) (fun i left => some ([DV.int .i64 (szRecs (l.drop i) left)], []))
    ?_ ?_ l.length (i := 0) (s := left - l.length) ⟨by omega, by omega⟩ (by omega) (by omega)).trans (by simp)
  · intro i left rec hi ⟨g0, g1⟩
    have hx : l.drop i = l[i] :: l.drop (i + 1) := List.drop_eq_getElem_cons hi
    unfold P_laws_szRecordS.l0
    rw [hx]
    simp only [u3_list, qLen_sl, List.length_map, bd_some, qBin_lss, qB_bool, Int.ofNat_lt, hi, decide_true, cond_true, qIA_map _ (show shRec.length = 4 from rfl) hi, qLd_rp, Rec.get]
    simp only [Option.map_some, b2_some]
    rw [cq_sn (args' := [l[i].enc, .int .i64 left]) rfl (by simp [sns, S_laws_szRecord, sn_cl _ _ (Rec.cl _), sn_cl _ _ (show cl (.int .i64 left) = true from rfl)]) (szRecord_ok l[i] left g0 g1 (hl _ (List.getElem_mem hi))) rfl]
    rw [adL_sc rfl]
    simp only [c1_some, bd_some, qBin_lss, qB_bool]
    by_cases hs : szRec l[i] left < 0
    · refine .inr ?_
      simp [szRecs, hs]
    · refine .inl ⟨szRec l[i] left, ?_, ?_, ?_⟩
      · have := szRec_le hs; omega
      · have hb : (l.length : Int) ≤ 1048576 := by omega
        simp only [u1_list, bd_some, qBin_lss, qB_bool, hs, decide_false, cond_false, qBin_add]
        rw [wrapI (n := (i : Int) + 1) (by constructor <;> omega)]
        rfl
      · simp [szRecs, hs]
  · intro left rec _
    unfold P_laws_szRecordS.l0
    simp [szRecs]
end Go.Lg.Pv.Q
namespace Go.Lg.Pv.Q
open Go Go.Lg Go.Lg.Pv
set_option linter.unusedVariables false
set_option linter.unusedSimpArgs false

theorem toRecord_ok {N n : Nat} (r : Rec) : run1 S_laws_toRecord (qfn P N (n + 1) n_laws_toRecord) [r.enc] = some ([r.enc], []) := by
  refine run1_of (ν := []) rfl rfl rfl (r := [r.enc]) ?_ (resO_agg rfl)
  rw [laws_toRecord_eq]
  unfold P_laws_toRecord Rec.enc
  simp
def rec0 : Rec := ⟨0, 0, 0, ⟨#[]⟩⟩
/-- the block of a copy -/
def cpB (l : List Rec) (i : Nat) : PB := ⟨0, shRec, (pre l rec0 i).map Rec.enc, true, false, true⟩
theorem adL_rec (μ : PH) (r : Rec) : adL true μ [r.enc] = ([r.enc], μ) := adL_agg rfl
theorem toRecordS_ok {N n : Nat} (hN : 4294967296 ≤ N) (l : List Rec) (hlen : l.length ≤ 1048576) :
    run1 S_laws_toRecordS (qfn P N (n + 2) n_laws_toRecordS) [.sl shRec (l.map Rec.enc)] = some ([.sl shRec (l.map Rec.enc)], []) := by
  refine run1_of (ν := [cpB l l.length]) (ν' := kl [cpB l l.length] 0) rfl rfl rfl (r := [.own 0 0 0 l.length l.length true]) ?_ ?_
  · rw [laws_toRecordS_eq]
    unfold P_laws_toRecordS
    have h1 : (l.length : Int) * 40 ≤ 140737488355328 := by omega
    have h2 : (l.length : Int) ≤ 9223372036854775807 := by omega
    have hms : qMS [] [.sc, .sc, .sc, .sc] true [.int .i64 0, .int .i64 0, .int .i64 0, .str ⟨#[]⟩] 4 40 (.int .i64 l.length) (.int .i64 l.length) = some (.own 0 0 0 l.length l.length true, [cpB l 0]) := by
      simp [qMS, h1, h2, cpB, pre_zero, okC, isSc]
      exact .inr rfl
    simp only [qLen_sl, bd_some, List.length_map, hms, b2_some]
    refine (loop_acc (σ := Unit) (len := l.length) (fun i _ => ([.sl shRec (l.map Rec.enc), .own 0 0 0 l.length l.length true, .int .i64 (i : Nat)] : List DV)) (fun i _ => [cpB l i]) (fun _ _ => True) (fun i _ => some ([DV.own 0 0 0 l.length l.length true], [cpB l l.length]))
      ?_ ?_ l.length (i := 0) (s := ()) trivial (by omega) (by omega))
    · intro i _ rec hi _
      refine .inl ⟨(), trivial, ?_, rfl⟩
      unfold P_laws_toRecordS.l0
      simp only [u3_list, qLen_sl, List.length_map, bd_some, qBin_lss, qB_bool, Int.ofNat_lt, hi, decide_true, cond_true, qIA_map _ (show shRec.length = 4 from rfl) hi, qLd_rp, Rec.get]
      simp only [Option.map_some, b2_some]
      rw [cq_sn (args' := [l[i].enc]) rfl (by simp [sns, S_laws_toRecord, sn_cl _ _ (Rec.cl _)]) (toRecord_ok l[i]) rfl, adL_rec]
      have hb : bk [cpB l i] 0 0 = some (cpB l i) := rfl
      have hg : (cpB l i).el[i]? = some ((pre l rec0 i)[i]'(by rw [pre_len _ _ _ (by omega)]; exact hi)).enc := by simp [cpB, pre_len _ _ _ (Nat.le_of_lt hi), hi]
      simp only [u1_list, c1_some, qIA_own (size := 4) hb rfl hi (show (cpB l i).sh.length = 4 from rfl), bd_some, Nat.zero_add]
      rw [qSt_ptr (size := 4) (cs := [.int .i64 l[i].kind, .int .i64 l[i].loc, .int .i64 l[i].long, .str l[i].data]) hb hg rfl (Nat.le_refl 4) rfl]
      simp only [bd_some, qBin_add]
      rw [wrapI (n := (i : Int) + 1) (by constructor <;> omega)]
      have : ([cpB l i].set 0 { cpB l i with el := (cpB l i).el.set i l[i].enc }) = [cpB l (i + 1)] := by
        simp [cpB, ← pre_set l rec0 i hi, List.map_set]
      exact congrArg (rec _) this
    · intro _ rec _
      unfold P_laws_toRecordS.l0
      simp
  · have hb : bk [cpB l l.length] 0 0 = some (cpB l l.length) := rfl
    have he : ((cpB l l.length).el.drop 0).take l.length = l.map Rec.enc := by simp only [cpB, pre_last, List.drop_zero]; exact List.take_of_length_le (by simp)
    have hc : clL (l.map Rec.enc) = true := clL_map Rec.cl l
    simp only [resO, S_laws_toRecordS, onS, tk_own hb rfl rfl he hc, Option.bind_some]
    rfl

theorem eqStringS_ok {N n : Nat} (hN : 4294967296 ≤ N) (a b : List ByteArray) (ha : a.length ≤ 1048576) (hb : b.length ≤ 1048576) :
    run1 S_laws_eqStringS (qfn P N (n + 1) n_laws_eqStringS) [.sl [.sc] (a.map DV.str), .sl [.sc] (b.map DV.str)] = some ([.bool (decide (a = b))], []) := by
  refine run1_of (ν := []) rfl rfl rfl (r := [.bool (decide (a = b))]) ?_ (resO_sc rfl)
  rw [laws_eqStringS_eq]
  unfold P_laws_eqStringS
  simp
  by_cases hl : ¬ a.length = b.length
  · have : a ≠ b := fun h => hl (by rw [h])
    simp [this, show ¬ ((a.length : Int) = b.length) by omega]
  have hl := Decidable.of_not_not hl
  simp [hl]
  refine (loop_acc (σ := Unit) (len := a.length) (fun i _ => ([.sl [.sc] (a.map DV.str), .sl [.sc] (b.map DV.str), .int .i64 (i : Nat)] : List DV)) (fun _ _ => []) (fun _ _ => True) (fun i _ => some ([DV.bool (decide (a.drop i = b.drop i))], []))
    ?_ ?_ a.length (i := 0) (s := ()) trivial (by omega) (by omega)).trans (by simp)
  · intro i _ rec hi _
    have hi' : i < b.length := by omega
    have hx := drop_eq hi hi'
    unfold P_laws_eqStringS.l0
    simp [hi, hi']
    by_cases hs : a[i] = b[i]
    · refine .inl ?_
      rw [wrapI (n := (i : Int) + 1) (by constructor <;> omega)]
      simp [hx, hs]
    · refine .inr ?_
      simp [hx, hs]
  · intro _ rec _
    unfold P_laws_eqStringS.l0
    simp [hl]
theorem Rec.ext_iff' (a b : Rec) : (a = b) ↔ a.kind = b.kind ∧ a.loc = b.loc ∧ a.long = b.long ∧ a.data = b.data := by cases a; cases b; simp
instance : DecidableEq Rec := fun a b => decidable_of_iff _ (Rec.ext_iff' a b).symm
theorem eqRecord_ok {N n : Nat} (a b : Rec) : run1 S_laws_eqRecord (qfn P N (n + 1) n_laws_eqRecord) [a.enc, b.enc] = some ([.bool (decide (a = b))], []) := by
  refine run1_of (ν := []) rfl rfl rfl (r := [.bool (decide (a = b))]) ?_ (resO_sc rfl)
  rw [laws_eqRecord_eq]
  unfold P_laws_eqRecord Rec.enc
  by_cases h1 : a.kind = b.kind <;> by_cases h2 : a.loc = b.loc <;> by_cases h3 : a.long = b.long <;> by_cases h4 : a.data = b.data <;> simp [Rec.ext_iff', h1, h2, h3, h4]
theorem eqRecordS_ok {N n : Nat} (hN : 4294967296 ≤ N) (a b : List Rec) (ha : a.length ≤ 1048576) (hb : b.length ≤ 1048576) :
    run1 S_laws_eqRecordS (qfn P N (n + 2) n_laws_eqRecordS) [.sl shRec (a.map Rec.enc), .sl shRec (b.map Rec.enc)] = some ([.bool (decide (a = b))], []) := by
  refine run1_of (ν := []) rfl rfl rfl (r := [.bool (decide (a = b))]) ?_ (resO_sc rfl)
  rw [laws_eqRecordS_eq]
  unfold P_laws_eqRecordS
  simp
  by_cases hl : ¬ a.length = b.length
  · have : a ≠ b := fun h => hl (by rw [h])
    simp [this, show ¬ ((a.length : Int) = b.length) by omega]
  have hl := Decidable.of_not_not hl
  simp [hl]
  refine (loop_acc (σ := Unit) (len := a.length) (fun i _ => ([.sl shRec (a.map Rec.enc), .sl shRec (b.map Rec.enc), .int .i64 (i : Nat)] : List DV)) (fun _ _ => []) (fun _ _ => True) (fun i _ => some ([DV.bool (decide (a.drop i = b.drop i))], []))
    ?_ ?_ a.length (i := 0) (s := ()) trivial (by omega) (by omega)).trans (by simp)
  · intro i _ rec hi _
    have hi' : i < b.length := by omega
    have hx := drop_eq hi hi'
    unfold P_laws_eqRecordS.l0
    simp only [u3_list, qLen_sl, List.length_map, bd_some, qBin_lss, qB_bool, Int.ofNat_lt, hi, decide_true, cond_true, qIA_map _ (show shRec.length = 4 from rfl) hi, qIA_map _ (show shRec.length = 4 from rfl) hi', qLd_rp, Rec.get, Option.map_some, b2_some]
    rw [cq_sn (args' := [a[i].enc, b[i].enc]) rfl (by simp [sns, S_laws_eqRecord, sn_cl _ _ (Rec.cl _)]) (eqRecord_ok a[i] b[i]) rfl, adL_sc rfl]
    by_cases hs : a[i] = b[i]
    · refine .inl ⟨(), trivial, ?_, ?_⟩
      · simp [hx, hs]
        rw [wrapI (n := (i : Int) + 1) (by constructor <;> omega)]
      · simp [hx, hs]
    · refine .inr ?_
      simp [hx, hs]
  · intro _ rec _
    unfold P_laws_eqRecordS.l0
    simp [hl]
end Go.Lg.Pv.Q
namespace Go.Lg.Pv.Q
open Go Go.Lg Go.Lg.Pv
set_option linter.unusedVariables false
set_option linter.unusedSimpArgs false

def chr (k : Int) : ByteArray := ⟨#[UInt8.ofNat (IntKind.u8.wrap (IntKind.i64.wrap (48 + k.tmod 10))).toNat]⟩
def dg : Nat → Int → ByteArray → ByteArray
  | 0, _, out => out
  | f + 1, k, out => if k > 0 then dg f (k.tdiv 10) (chr k ++ out) else out
def mark (k : Int) : ByteArray := ⟨#[109]⟩ ++ dg 13 k ⟨#[]⟩
theorem mark_loop {N : Nat} {call : CW} (bs : Nat) (μ : PH) : ∀ (f M : Nat) (k : Int) (out : ByteArray), k < (10 : Int) ^ f → f < M → out.size + f ≤ 1000 → k ≤ 9223372036854775807 →
    iterD (P_laws_markText.l0 N call bs) M [.int .i64 k, .str out] μ = some ([.str (⟨#[109]⟩ ++ dg f k out)], μ)
  | 0, M, k, out, hk, hM, ho, hi => by
    obtain ⟨M, rfl⟩ : ∃ m, M = m + 1 := ⟨M - 1, by omega⟩
    have hk : ¬ k > 0 := by simp at hk; omega
    simp only [iterD]
    unfold P_laws_markText.l0
    simp [hk, dg]
    rw [qBin_sadd _ _ _ _ (by have : (⟨#[109]⟩ : ByteArray).size = 1 := rfl; omega)]
    rfl
  | f + 1, M, k, out, hk, hM, ho, hi => by
    obtain ⟨M, rfl⟩ : ∃ m, M = m + 1 := ⟨M - 1, by omega⟩
    simp only [iterD]
    unfold P_laws_markText.l0
    by_cases h : k > 0
    · have hq : k.tdiv 10 = k / 10 := Int.tdiv_eq_ediv_of_nonneg (by omega)
      simp only [u2_list, qBin_gtr, bd_some, qB_bool, h, decide_true, cond_true, qBin_rem _ _ _ k 10 (by decide), qBin_add, qInt_int]
      have h1 : ∀ v : Int, qBS μ true [.sc] false [.int .u8 0] 1 1 [(0, .int .u8 v)] = some (.sl [.sc] [.int .u8 v], μ) := fun v => rfl
      have h2 : ∀ v : Int, qB2S μ (.sl [.sc] [.int .u8 v]) = some (.str ⟨#[UInt8.ofNat v.toNat]⟩) := fun v => rfl
      simp only [h1, b2_some, h2, bd_some]
      have hs : (chr k).size = 1 := rfl
      have h3 : qBin μ .str .add (.str ⟨#[UInt8.ofNat (IntKind.u8.wrap (IntKind.i64.wrap (48 + k.tmod 10))).toNat]⟩) (.str out) = some (.str (chr k ++ out)) :=
        qBin_sadd μ .str (chr k) out (by omega)
      rw [h3]
      simp only [bd_some, qBin_quo _ _ _ k 10 (by decide)]
      have hb : k.tdiv 10 < (10 : Int) ^ f := by
        rw [hq]; rw [Int.pow_succ] at hk; omega
      have hr : IntKind.i64.wrap (k.tdiv 10) = k.tdiv 10 := by
        rw [hq]; exact wrapI (by constructor <;> omega)
      rw [hr]
      refine (mark_loop (N := N) (call := call) bs μ f M _ _ hb (by omega) (by rw [ByteArray.size_append]; omega) (by rw [hq]; omega)).trans ?_
      simp [dg, h]
    · simp [h, dg]
      rw [qBin_sadd _ _ _ _ (by have : (⟨#[109]⟩ : ByteArray).size = 1 := rfl; omega)]
      rfl
theorem markText_ok {N n : Nat} (hN : 4294967296 ≤ N) (k : Int) (h0 : 0 < k) (h1 : k < 10000000000000) :
    run1 S_laws_markText (qfn P N (n + 1) n_laws_markText) [.int .i64 k] = some ([.str (mark k)], []) := by
  refine run1_of (ν := []) rfl rfl rfl (r := [.str (mark k)]) ?_ (resO_sc rfl)
  rw [laws_markText_eq]
  unfold P_laws_markText
  simp only [qBin_leq, bd_some, qB_bool, show ¬ k ≤ 0 by omega, decide_false, cond_false]
  exact mark_loop 0 [] 13 N k _ (by simpa using h1) (by omega) (by decide) (by omega)
theorem cq_mark {N n : Nat} (hN : 4294967296 ≤ N) (μ : PH) (k : Int) (h0 : 0 < k) (h1 : k < 10000000000000) :
    cq S_laws_markText (qfn P N (n + 1) n_laws_markText) [.int .i64 k] μ = some ([.str (mark k)], μ) := by
  rw [cq_sn (args' := [.int .i64 k]) rfl rfl (markText_ok hN k h0 h1) rfl, adL_sc rfl]
def marks (k : Int) (n : Nat) : List ByteArray := (List.range n).map fun i => mark (k + (i : Nat))
theorem marks_len (k : Int) (n : Nat) : (marks k n).length = n := by simp [marks]
theorem marks_get (k : Int) (n i : Nat) (h : i < (marks k n).length) : (marks k n)[i] = mark (k + (i : Nat)) := by simp [marks]

theorem markStringS_ok {N n : Nat} (hN : 4294967296 ≤ N) {μ : PH} {id ver c : Nat} {x : Bool} {b : PB} {xs : List ByteArray} {k : Int} (hb : bk μ id ver = some b) (hel : b.el = xs.map DV.str) (hsh : b.sh = [.sc]) (hop : b.op = false)
    (hn : xs.length ≤ 1048576) (h0 : 0 < k) (h1 : k ≤ 100000000) :
    qfn P N (n + 2) n_laws_markStringS [.own id ver 0 xs.length c x, .int .i64 k] μ = some ([.int .i64 (k + xs.length)], μ.set id { b with el := (marks k xs.length).map DV.str }) := by
  have hid : id < μ.length := bk_lt hb
  have hlv := (bk_some hb).2
  rw [laws_markStringS_eq]
  unfold P_laws_markStringS
  have hm0 : μ = μ.set id { b with el := (mix (marks k xs.length) xs 0).map DV.str } := by
    rw [mix_zero, ← hel]; exact (bk_self hb).symm
  have hml := marks_len k xs.length
  conv => lhs; rw [hm0]
  refine Eq.trans (by simp) (loop_acc (F := P_laws_markStringS.l0 N (qfn P N (n + 1)) μ.length) (N := N) (σ := Unit) (len := xs.length) (fun i _ => ([.own id ver 0 xs.length c x, .int .i64 (k + (i : Nat)), .int .i64 (i : Nat)] : List DV)) (fun i _ => μ.set id { b with el := (mix (marks k xs.length) xs i).map DV.str })
    (fun _ _ => True) (fun i _ => some ([DV.int .i64 (k + xs.length)], μ.set id { b with el := (marks k xs.length).map DV.str })) ?_ ?_ xs.length (i := 0) (s := ()) trivial (by omega) (by omega))
  · intro i _ rec hi _
    refine .inl ⟨(), trivial, ?_, rfl⟩
    have hbk : bk (μ.set id { b with el := (mix (marks k xs.length) xs i).map DV.str }) id ver = some { b with el := (mix (marks k xs.length) xs i).map DV.str } := by
      have := bk_set (μ := μ) (b := { b with el := (mix (marks k xs.length) xs i).map DV.str }) hid hlv.1
      rw [← hlv.2]; exact this
    unfold P_laws_markStringS.l0
    simp only [u3_list, qLen_own hbk, bd_some, qBin_lss, qB_bool, Int.ofNat_lt, hi, decide_true, cond_true, cq_mark hN _ (k + (i : Nat)) (by omega) (by omega), c1_some, u1_list]
    have hi' : i < (marks k xs.length).length := by omega
    simp only [qIA_own (size := 1) hbk rfl hi (by rw [hsh]; rfl), bd_some, Nat.zero_add]
    rw [qSt_ptr (size := 1) (cs := [.str (mark (k + (i : Nat)))]) hbk (e := .str xs[i]) (by rw [List.getElem?_map, mix_get hml hi']; rfl) rfl (Nat.le_refl 1) (by rw [hop, hsh]; rfl)]
    simp only [bd_some, qBin_add]
    rw [wrapI (n := (i : Int) + 1) (by constructor <;> omega), wrapI (n := k + (i : Nat) + 1) (by constructor <;> omega)]
    have h2 : mkE (.str xs[i]) (overD (cellsD (.str xs[i])) 0 [.str (mark (k + (i : Nat)))]) = .str (mark (k + (i : Nat))) := rfl
    have h3 : ((mix (marks k xs.length) xs i).map DV.str).set i (.str (mark (k + (i : Nat)))) = (mix (marks k xs.length) xs (i + 1)).map DV.str := by
      rw [← mix_set hml hi', marks_get, List.map_set]
    simp only [h2, h3, List.set_set]
    rw [show k + (i : Nat) + 1 = k + ((i + 1 : Nat) : Int) by omega]
    rfl
  · intro _ rec _
    have hbk : bk (μ.set id { b with el := (mix (marks k xs.length) xs xs.length).map DV.str }) id ver = some { b with el := (mix (marks k xs.length) xs xs.length).map DV.str } := by
      have := bk_set (μ := μ) (b := { b with el := (mix (marks k xs.length) xs xs.length).map DV.str }) hid hlv.1
      rw [← hlv.2]; exact this
    unfold P_laws_markStringS.l0
    have hlast : mix (marks k xs.length) xs xs.length = marks k xs.length := by
      conv => lhs; rw [← hml]
      rw [hml]; conv => lhs; arg 3; rw [← hml]
      exact mix_last hml
    simp [qLen_own hbk]
    rw [hlast]
theorem heldStringS_ok {N n : Nat} (hN : 4294967296 ≤ N) (m : Nat) (k : Int) (hn : m ≤ 1048576) (h0 : 0 < k) (h1 : k ≤ 100000000) :
    run1 S_laws_heldStringS (qfn P N (n + 2) n_laws_heldStringS) [.sl [.sc] ((marks k m).map DV.str), .int .i64 k] = some ([.int .i64 (k + m)], []) := by
  refine run1_of (ν := []) rfl rfl rfl (r := [.int .i64 (k + m)]) ?_ (resO_sc rfl)
  rw [laws_heldStringS_eq]
  unfold P_laws_heldStringS
  have hml := marks_len k m
  refine Eq.trans (by simp) (loop_acc (F := P_laws_heldStringS.l0 N (qfn P N (n + 1)) 0) (N := N) (σ := Unit) (len := m) (fun i _ => ([.sl [.sc] ((marks k m).map DV.str), .int .i64 (k + (i : Nat)), .int .i64 (i : Nat)] : List DV)) (fun _ _ => [])
    (fun _ _ => True) (fun i _ => some ([DV.int .i64 (k + m)], [])) ?_ ?_ m (i := 0) (s := ()) trivial (by omega) (by omega))
  · intro i _ rec hi _
    refine .inl ⟨(), trivial, ?_, rfl⟩
    have hi' : i < (marks k m).length := by omega
    unfold P_laws_heldStringS.l0
    simp only [u3_list, qLen_sl, List.length_map, hml, bd_some, qBin_lss, qB_bool, Int.ofNat_lt, hi, decide_true, cond_true, qIA_map _ (show [Sh.sc].length = 1 from rfl) hi', qLd_rp, cellsD_str, getC_one, List.getElem?_cons_zero, Option.map_some, b2_some,
      cq_mark hN _ (k + (i : Nat)) (by omega) (by omega), c1_some, u1_list, stand_rp, qBin_sneq, marks_get, ne_eq, not_true_eq_false, decide_false, cond_false, qBin_add]
    rw [wrapI (n := (i : Int) + 1) (by constructor <;> omega), wrapI (n := k + (i : Nat) + 1) (by constructor <;> omega)]
    rw [show k + (i : Nat) + 1 = k + ((i + 1 : Nat) : Int) by omega]
    rfl
  · intro _ rec _
    unfold P_laws_heldStringS.l0
    simp [hml]
end Go.Lg.Pv.Q
namespace Go.Lg.Pv.Q
open Go Go.Lg Go.Lg.Pv
set_option linter.unusedVariables false
set_option linter.unusedSimpArgs false

def markR (k : Int) : Rec := ⟨k, k + 1, k + 2, mark (k + 3)⟩
def marksR (k : Int) (n : Nat) : List Rec := (List.range n).map fun i => markR (k + 4 * (i : Nat))
theorem marksR_len (k : Int) (n : Nat) : (marksR k n).length = n := by simp [marksR]
theorem marksR_get (k : Int) (n i : Nat) (h : i < (marksR k n).length) : (marksR k n)[i] = markR (k + 4 * (i : Nat)) := by simp [marksR]
theorem markRecordS_ok {N n : Nat} (hN : 4294967296 ≤ N) {μ : PH} {id ver c : Nat} {x : Bool} {b : PB} {xs : List Rec} {k : Int} (hb : bk μ id ver = some b) (hel : b.el = xs.map Rec.enc) (hsh : b.sh = shRec) (hop : b.op = false)
    (hn : xs.length ≤ 1048576) (h0 : 0 < k) (h1 : k ≤ 100000000) :
    qfn P N (n + 2) n_laws_markRecordS [.own id ver 0 xs.length c x, .int .i64 k] μ = some ([.int .i64 (k + 4 * xs.length)], μ.set id { b with el := (marksR k xs.length).map Rec.enc }) := by
  rw [laws_markRecordS_eq]
  unfold P_laws_markRecordS
  have hm0 : μ = μ.set id { b with el := (mix (marksR k xs.length) xs 0).map Rec.enc } := by
    rw [mix_zero, ← hel]; exact (bk_self hb).symm
  have hml := marksR_len k xs.length
  conv => lhs; rw [hm0]
  refine Eq.trans (by simp) (loop_acc (F := P_laws_markRecordS.l0 N (qfn P N (n + 1)) μ.length) (N := N) (σ := Unit) (len := xs.length) (fun i _ => ([.own id ver 0 xs.length c x, .int .i64 (k + 4 * (i : Nat)), .int .i64 (i : Nat)] : List DV)) (fun i _ => μ.set id { b with el := (mix (marksR k xs.length) xs i).map Rec.enc })
    (fun _ _ => True) (fun i _ => some ([DV.int .i64 (k + 4 * xs.length)], μ.set id { b with el := (marksR k xs.length).map Rec.enc })) ?_ ?_ xs.length (i := 0) (s := ()) trivial (by omega) (by omega))
  · intro i _ rec hi _
    refine .inl ⟨(), trivial, ?_, rfl⟩
    have hi' : i < (marksR k xs.length).length := by omega
    have hLl : i < ((mix (marksR k xs.length) xs i).map Rec.enc).length := by rw [List.length_map, mix_len hml]; exact hi
    have hL : (mix (marksR k xs.length) xs i).map Rec.enc = ((mix (marksR k xs.length) xs i).map Rec.enc).set i (.agg [.int .i64 xs[i].kind, .int .i64 xs[i].loc, .int .i64 xs[i].long, .str xs[i].data]) := by
      apply List.ext_getElem?
      intro j
      rw [List.getElem?_set]
      split
      · subst_vars; rw [List.getElem?_map, mix_get hml hi']; rfl
      · rfl
    unfold P_laws_markRecordS.l0
    generalize hLg : (mix (marksR k xs.length) xs i).map Rec.enc = L at hL hLl ⊢
    have hbk := bk_el hb L
    have hq : ∀ E : List DV, qIA (μ.set id { b with el := E }) 4 (.own id ver 0 xs.length c x) (.int .i64 (i : Nat)) = some (.ptr id ver i 0) := fun E => by
      rw [qIA_own (size := 4) (bk_el hb E) rfl hi (by show b.sh.length = 4; rw [hsh]; rfl), Nat.zero_add]
    simp only [u3_list, qLen_own hbk, bd_some, qBin_lss, qB_bool, Int.ofNat_lt, hi, decide_true, cond_true]
    rw [hL]
    simp only [hq, bd_some, qFA_ptr _ (bk_el hb _), Nat.zero_add]
    rw [st_at hb hop hLl (by simp) rfl rfl]
    simp only [bd_some, qBin_add, hq, qFA_ptr _ (bk_el hb _), Nat.zero_add]
    rw [wrapI (n := k + 4 * (i : Nat) + 1) (by constructor <;> omega), st_at hb hop hLl (by simp) rfl rfl]
    simp only [bd_some, qBin_add, hq, qFA_ptr _ (bk_el hb _), Nat.zero_add]
    rw [wrapI (n := k + 4 * (i : Nat) + 1 + 1) (by constructor <;> omega), st_at hb hop hLl (by simp) rfl rfl]
    simp only [bd_some, qBin_add]
    rw [wrapI (n := k + 4 * (i : Nat) + 1 + 1 + 1) (by constructor <;> omega)]
    simp only [cq_mark hN _ (k + 4 * (i : Nat) + 1 + 1 + 1) (by omega) (by omega), c1_some, u1_list, hq, bd_some, qFA_ptr _ (bk_el hb _), Nat.zero_add]
    rw [st_at hb hop hLl (by simp) rfl rfl]
    simp only [bd_some, qBin_add]
    rw [wrapI (n := (i : Int) + 1) (by constructor <;> omega), wrapI (n := k + 4 * (i : Nat) + 1 + 1 + 1 + 1) (by constructor <;> omega)]
    rw [← mix_set hml hi', List.map_set, marksR_get, hLg]
    rw [show k + 4 * (i : Nat) + 1 + 1 + 1 + 1 = k + 4 * ((i + 1 : Nat) : Int) by omega, show k + 4 * (i : Nat) + 1 + 1 + 1 = k + 4 * (i : Nat) + 3 by omega, show k + 4 * (i : Nat) + 1 + 1 = k + 4 * (i : Nat) + 2 by omega]
    rfl
  · intro _ rec _
    have hbk := bk_el hb ((mix (marksR k xs.length) xs xs.length).map Rec.enc)
    have hlast : mix (marksR k xs.length) xs xs.length = marksR k xs.length := by
      conv => lhs; arg 3; rw [← hml]
      exact mix_last hml
    unfold P_laws_markRecordS.l0
    simp [qLen_own hbk]
    rw [hlast]

/-! what is good -/
theorem within_ok {N n : Nat} (μ : PH) (a l h : Int) : cq S_impl_within (qfn P N (n + 1) n_impl_within) [.int .i64 a, .int .i64 l, .int .i64 h] μ = some ([.bool (decide (l ≤ a) && decide (a ≤ h))], μ) := by
  rw [cq_sn (args' := [.int .i64 a, .int .i64 l, .int .i64 h]) (res := [.bool (decide (l ≤ a) && decide (a ≤ h))]) rfl rfl ?_ rfl, adL_sc rfl]
  refine run1_of (ν := []) rfl rfl rfl (r := [.bool (decide (l ≤ a) && decide (a ≤ h))]) ?_ (resO_sc rfl)
  rw [impl_within_eq]
  unfold P_impl_within
  by_cases h1 : l ≤ a <;> simp [h1]
theorem l1In_ok {N n : Nat} (μ : PH) (a l h : Int) : cq S_spec_l1In (qfn P N (n + 1) n_spec_l1In) [.int .i64 a, .int .i64 l, .int .i64 h] μ = some ([.bool (decide (l ≤ a) && decide (a ≤ h))], μ) := by
  rw [cq_sn (args' := [.int .i64 a, .int .i64 l, .int .i64 h]) (res := [.bool (decide (l ≤ a) && decide (a ≤ h))]) rfl rfl ?_ rfl, adL_sc rfl]
  refine run1_of (ν := []) rfl rfl rfl (r := [.bool (decide (l ≤ a) && decide (a ≤ h))]) ?_ (resO_sc rfl)
  rw [spec_l1In_eq]
  unfold P_spec_l1In
  by_cases h1 : l ≤ a <;> simp [h1]
def inRun (a l : Int) : Bool := decide (1 ≤ l) && decide (l ≤ 4) && decide (0 ≤ a) && decide (a ≤ 16 - l)
theorem isRun_ok {N n : Nat} (μ : PH) (a l : Int) (h1 : 1 ≤ l) (h2 : l ≤ 4) : cq S_impl_isRun (qfn P N (n + 1) n_impl_isRun) [.int .i64 a, .int .i64 l] μ = some ([.bool (inRun a l)], μ) := by
  rw [cq_sn (args' := [.int .i64 a, .int .i64 l]) (res := [.bool (inRun a l)]) rfl rfl ?_ rfl, adL_sc rfl]
  refine run1_of (ν := []) rfl rfl rfl (r := [.bool (inRun a l)]) ?_ (resO_sc rfl)
  rw [impl_isRun_eq]
  unfold P_impl_isRun inRun
  simp [h1, h2]
  rw [wrapI (n := 16 - l) (by constructor <;> omega)]
  by_cases h3 : 0 ≤ a <;> simp [h3]
theorem l3Where_ok {N n : Nat} (μ : PH) (r : Rec) : cq S_spec_l3Where (qfn P N (n + 2) n_spec_l3Where) [r.enc] μ = some ([.bool (inRun r.loc r.long)], μ) := by
  rw [cq_sn (args' := [r.enc]) (res := [.bool (inRun r.loc r.long)]) rfl (by simp [sns, S_spec_l3Where, sn_cl _ _ (Rec.cl _)]) ?_ rfl, adL_sc rfl]
  refine run1_of (ν := []) rfl rfl rfl (r := [.bool (inRun r.loc r.long)]) ?_ (resO_sc rfl)
  rw [spec_l3Where_eq]
  unfold P_spec_l3Where inRun Rec.enc
  simp only [a4_agg, l1In_ok, c1_some, u1_list, qB_bool]
  by_cases h1 : 1 ≤ r.long <;> by_cases h2 : r.long ≤ 4 <;> simp [h1, h2, l1In_ok]
  rw [wrapI (n := 16 - r.long) (by constructor <;> omega)]
def good (r : Rec) : Bool :=
  if r.kind = 1 then inRun r.loc r.long && decide ((r.data.size : Int) = 2 * r.long)
  else if r.kind = 2 then inRun r.loc r.long && decide (r.data = ⟨#[]⟩)
  else if r.kind = 3 then decide (0 ≤ r.loc) && decide (r.loc ≤ 200) && decide (r.long = 0) && decide (r.data = ⟨#[]⟩)
  else false
theorem goodI {N n : Nat} (μ : PH) (r : Rec) : qfn P N (n + 2) n_impl_GoodRecord [r.enc] μ = some ([.bool (good r)], μ) := by
  rw [impl_GoodRecord_eq]
  unfold P_impl_GoodRecord good Rec.enc
  simp only [a4_agg, qBin_eql, bd_some, qB_bool, cond_dec, within_ok, c1_some, u1_list, qLs_str, qBin_mul, qBin_seql]
  by_cases h1 : 1 ≤ r.long <;> by_cases h2 : r.long ≤ 4
  · simp only [h1, h2, decide_true, Bool.and_self, cond_true, isRun_ok _ _ _ h1 h2, c1_some, u1_list, bd_some, qB_bool]
    rw [wrapI (n := 2 * r.long) (by constructor <;> omega)]
    have h0 : ¬ r.long = 0 := by omega
    cases hq : inRun r.loc r.long <;> simp [h0] <;> (repeat' split) <;> simp_all
  all_goals (simp [h1, h2, inRun] <;> (repeat' split) <;> simp_all)
  all_goals (cases (decide (0 ≤ r.loc) && decide (r.loc ≤ 200)) <;> simp)
theorem goodS {N n : Nat} (μ : PH) (r : Rec) : cq S_spec_GoodRecord (qfn P N (n + 3) n_spec_GoodRecord) [r.enc] μ = some ([.bool (good r)], μ) := by
  rw [cq_sn (args' := [r.enc]) (res := [.bool (good r)]) rfl (by simp [sns, S_spec_GoodRecord, sn_cl _ _ (Rec.cl _)]) ?_ rfl, adL_sc rfl]
  refine run1_of (ν := []) rfl rfl rfl (r := [.bool (good r)]) ?_ (resO_sc rfl)
  rw [spec_GoodRecord_eq]
  have hw := l3Where_ok (N := N) (n := n) [] r
  unfold Rec.enc at hw
  unfold P_spec_GoodRecord good Rec.enc
  simp only [a4_agg, qBin_eql, bd_some, qB_bool, cond_dec, l1In_ok, hw, c1_some, u1_list, qLs_str, qBin_mul, qBin_seql]
  cases hq : inRun r.loc r.long
  · simp
    (repeat' split) <;> simp_all
    all_goals (cases (decide (0 ≤ r.loc) && decide (r.loc ≤ 200)) <;> simp)
  · have : r.long ≤ 4 ∧ 1 ≤ r.long := by simp [inRun] at hq; omega
    simp
    rw [wrapI (n := 2 * r.long) (by constructor <;> omega)]
    have h0 : ¬ r.long = 0 := by omega
    (repeat' split) <;> simp_all
end Go.Lg.Pv.Q
namespace Go.Lg.Pv.Q
open Go Go.Lg Go.Lg.Pv
set_option linter.unusedVariables false
set_option linter.unusedSimpArgs false
set_option maxRecDepth 100000

abbrev fGood : DV := .fn n_impl_GoodRecord [] []
abbrev fNot : DV := .fn n_impl_areAll_impl_Record_1 [] [.rp fGood 0]
theorem notGood_ok {N n : Nat} (μ : PH) (r : Rec) : qfn P N (n + 3) n_impl_areAll_impl_Record_1 [r.enc, .rp fGood 0] μ = some ([.bool (!good r)], μ) := by
  rw [impl_areAll_impl_Record_1_eq]
  have h := goodI (N := N) (n := n) μ r
  unfold Rec.enc at h
  unfold P_impl_areAll_impl_Record_1 Rec.enc
  simp only [a4_agg, qLd_rp]
  have hg : getC (cellsD fGood) 0 1 false = some fGood := rfl
  simp only [hg, Option.map_some, b2_some, qF_fn, List.nil_append, List.append_nil, List.singleton_append, h, c1_some, u1_list, qUn_not, bd_some]
def ixf : List Rec → Nat → Int
  | [], _ => -1
  | r :: l, i => if good r then ixf l (i + 1) else i
theorem ixf_all : ∀ (l : List Rec) (i : Nat), decide (ixf l i ≥ 0) = !l.all good
  | [], i => rfl
  | r :: l, i => by
    simp only [ixf, List.all_cons]
    by_cases h : good r = true
    · simp only [h, if_true, Bool.true_and]; exact ixf_all l (i + 1)
    · simp [h]
theorem ixf_ok {N n : Nat} (hN : 4294967296 ≤ N) (l : List Rec) (hlen : l.length ≤ 1048576) :
    run1 S_slices_IndexFunc_impl_Record_impl_Record (qfn P N (n + 4) n_slices_IndexFunc_impl_Record_impl_Record) [.sl shRec (l.map Rec.enc), fNot] = some ([.int .i64 (ixf l 0)], []) := by
  refine run1_of (ν := []) rfl rfl rfl (r := [.int .i64 (ixf l 0)]) ?_ (resO_sc rfl)
  rw [slices_IndexFunc_impl_Record_impl_Record_eq]
  unfold P_slices_IndexFunc_impl_Record_impl_Record
  refine Eq.trans (by simp) (loop_acc (F := P_slices_IndexFunc_impl_Record_impl_Record.l0 N (qfn P N (n + 3)) 0) (N := N) (σ := Unit) (len := l.length) (fun i _ => ([.sl shRec (l.map Rec.enc), fNot, .int .i64 (l.length : Nat), .int .i64 (i : Nat)] : List DV)) (fun _ _ => []) (fun _ _ => True) (fun i _ => some ([DV.int .i64 (ixf (l.drop i) i)], []))
    ?_ ?_ l.length (i := 0) (s := ()) trivial (by omega) (by omega))
  · intro i _ rec hi _
    have hx : l.drop i = l[i] :: l.drop (i + 1) := List.drop_eq_getElem_cons hi
    rw [hx]
    unfold P_slices_IndexFunc_impl_Record_impl_Record.l0
    simp only [u4_list, bd_some, qBin_lss, qB_bool, Int.ofNat_lt, hi, decide_true, cond_true, qIA_map _ (show shRec.length = 4 from rfl) hi, qLd_rp, Rec.get, Option.map_some, b2_some, qF_fn, List.nil_append, List.singleton_append, notGood_ok, c1_some, u1_list, ixf]
    cases hg : good l[i]
    · refine .inr ?_; rfl
    · refine .inl ⟨(), trivial, ?_, rfl⟩
      simp only [Bool.not_true, cond_false, qBin_add, bd_some]
      rw [wrapI (n := (i : Int) + 1) (by constructor <;> omega)]
      rfl
  · intro _ rec _
    unfold P_slices_IndexFunc_impl_Record_impl_Record.l0
    simp [ixf]
theorem contains_ok {N n : Nat} (hN : 4294967296 ≤ N) (l : List Rec) (hlen : l.length ≤ 1048576) :
    run1 S_slices_ContainsFunc_impl_Record_impl_Record (qfn P N (n + 5) n_slices_ContainsFunc_impl_Record_impl_Record) [.sl shRec (l.map Rec.enc), fNot] = some ([.bool (!l.all good)], []) := by
  refine run1_of (ν := []) rfl rfl rfl (r := [.bool (!l.all good)]) ?_ (resO_sc rfl)
  rw [slices_ContainsFunc_impl_Record_impl_Record_eq]
  unfold P_slices_ContainsFunc_impl_Record_impl_Record
  rw [cq_sn (args' := [.sl shRec (l.map Rec.enc), fNot]) rfl (by simp only [sns, S_slices_IndexFunc_impl_Record_impl_Record, sn_cl _ _ (recs_cl l), sn_cl _ _ (show cl fNot = true from rfl), Option.bind_some]) (ixf_ok (n := n) hN l hlen) rfl, adL_sc rfl]
  simp only [c1_some, u1_list, qBin_geq, bd_some, ixf_all]
theorem areAll_ok {N n : Nat} (hN : 4294967296 ≤ N) (l : List Rec) (hlen : l.length ≤ 1048576) :
    run1 S_impl_areAll_impl_Record (qfn P N (n + 6) n_impl_areAll_impl_Record) [.sl shRec (l.map Rec.enc), fGood] = some ([.bool (l.all good)], []) := by
  refine run1_of (ν := [⟨0, [.sc], [fGood], true, true, true⟩]) rfl rfl rfl (r := [.bool (l.all good)]) ?_ (resO_sc rfl)
  rw [impl_areAll_impl_Record_eq]
  unfold P_impl_areAll_impl_Record
  have ha : qAl [] true [.sc] false [fGood] = some (.ptr 0 0 0 0, [⟨0, [.sc], [fGood], true, true, true⟩]) := rfl
  simp only [s1_fn, ha, b2_some]
  have hs : sns [⟨0, [.sc], [fGood], true, true, true⟩] S_slices_ContainsFunc_impl_Record_impl_Record.ps [.sl shRec (l.map Rec.enc), .fn n_impl_areAll_impl_Record_1 [] [.ptr 0 0 0 0]] = some [.sl shRec (l.map Rec.enc), fNot] := by
    simp only [sns, S_slices_ContainsFunc_impl_Record_impl_Record, sn_cl _ _ (recs_cl l), Option.bind_some]
    rfl
  rw [cq_sn rfl hs (contains_ok (n := n) hN l hlen) rfl, adL_sc rfl]
  simp only [c1_some, u1_list, qUn_not, bd_some, Bool.not_not]
theorem l3Good_ok {N n : Nat} (hN : 4294967296 ≤ N) (l : List Rec) (hlen : l.length ≤ 1048576) :
    run1 S_spec_l3Good (qfn P N (n + 4) n_spec_l3Good) [.sl shRec (l.map Rec.enc)] = some ([.bool (l.all good)], []) := by
  refine run1_of (ν := []) rfl rfl rfl (r := [.bool (l.all good)]) ?_ (resO_sc rfl)
  rw [spec_l3Good_eq]
  unfold P_spec_l3Good
  refine Eq.trans (by simp) (loop_acc (F := P_spec_l3Good.l0 N (qfn P N (n + 3)) 0) (N := N) (σ := Unit) (len := l.length) (fun i _ => ([.sl shRec (l.map Rec.enc), .int .i64 (l.length : Nat), .int .i64 (i : Nat)] : List DV)) (fun _ _ => []) (fun _ _ => True) (fun i _ => some ([DV.bool ((l.drop i).all good)], []))
    ?_ ?_ l.length (i := 0) (s := ()) trivial (by omega) (by omega))
  · intro i _ rec hi _
    have hx : l.drop i = l[i] :: l.drop (i + 1) := List.drop_eq_getElem_cons hi
    rw [hx]
    have hgs := goodS (N := N) (n := n) [] l[i]
    unfold P_spec_l3Good.l0
    simp only [u3_list, bd_some, qBin_lss, qB_bool, Int.ofNat_lt, hi, decide_true, cond_true, qIA_map _ (show shRec.length = 4 from rfl) hi, qLd_rp, Rec.get, Option.map_some, b2_some]
    unfold Rec.enc at hgs ⊢
    simp only [a4_agg, hgs, c1_some, u1_list, qUn_not, bd_some, qB_bool, List.all_cons]
    cases hg : good l[i]
    · refine .inr ?_; rfl
    · refine .inl ⟨(), trivial, ?_, by simp⟩
      simp only [Bool.not_true, cond_false, qBin_add, bd_some]
      rw [wrapI (n := (i : Int) + 1) (by constructor <;> omega)]
      rfl
  · intro _ rec _
    unfold P_spec_l3Good.l0
    simp

/-! what is done -/
def Z2 : ByteArray := ⟨#[0, 0]⟩
def piece (r : Rec) (i : Nat) : ByteArray := if r.kind = 1 then r.data.extract (2 * i) (2 * i + 2) else Z2
def doN (r : Rec) (bl : List ByteArray) : Nat → List ByteArray
  | 0 => bl
  | i + 1 => (doN r bl i).set (r.loc.toNat + i) (piece r i)
theorem doN_len (r : Rec) (bl : List ByteArray) : ∀ i, (doN r bl i).length = bl.length
  | 0 => rfl
  | i + 1 => by simp [doN, doN_len r bl i]
theorem good_long {r : Rec} (h : good r = true) : 0 ≤ r.long ∧ r.long ≤ 4 ∧ (0 < r.long → 0 ≤ r.loc ∧ r.loc + r.long ≤ 16) ∧ (r.kind = 1 → (r.data.size : Int) = 2 * r.long) := by
  unfold good inRun at h
  split at h
  · simp at h; omega
  · split at h
    · simp at h; omega
    · split at h
      · simp at h; omega
      · cases h
/-- a block of texts -/
def tB (v : Nat) (bl : List ByteArray) : PB := ⟨v, [.sc], bl.map DV.str, true, false, true⟩
theorem qSs_ok (s : ByteArray) (i : Nat) (a b : Int) (ha : a = 2 * (i : Nat)) (hb : b = 2 * (i : Nat) + 2) (h : 2 * i + 2 ≤ s.size) (k k' : IntKind) : qSs (.str s) (some (.int k a)) (some (.int k' b)) = some (.str (s.extract (2 * i) (2 * i + 2))) := by
  subst ha hb
  have h1 : (2 * (i : Int) + 2) ≤ (s.size : Int) := by omega
  have h3 : (2 * (i : Int) + 2).toNat = 2 * i + 2 := by omega
  have h4 : (2 * (i : Int)).toNat = 2 * i := by omega
  have h5 : (0 : Int) ≤ 2 * (i : Int) + 2 := by omega
  have h6 : (0 : Int) ≤ 2 * (i : Int) := by omega
  simp [qSs, qBd, asID, h1, h3, h4, h5, h6]
  rw [if_pos (by omega)]; rfl
theorem st_tB {v : Nat} {bl : List ByteArray} {j : Nat} {s : ByteArray} (h : j < bl.length) : qSt [tB v bl] 1 (.ptr 0 v j 0) (.str s) = some [tB v (bl.set j s)] := by
  have hb : bk [tB v bl] 0 v = some (tB v bl) := by simp [bk, tB]
  rw [qSt_ptr (size := 1) (cs := [.str s]) hb (e := .str bl[j]) (by simp [tB, h]) rfl (Nat.le_refl 1) rfl]
  simp only [tB, List.map_set]
  rfl
theorem ia_tB {v : Nat} {bl : List ByteArray} {j : Nat} {a : Int} {k : IntKind} (ha : a = (j : Nat)) (h : j < bl.length) : qIA [tB v bl] 1 (.own 0 v 0 bl.length bl.length false) (.int k a) = some (.ptr 0 v j 0) := by
  have hb : bk [tB v bl] 0 v = some (tB v bl) := by simp [bk, tB]
  rw [qIA_own (size := 1) hb ha h rfl, Nat.zero_add]
abbrev oB (v : Nat) : DV := .own 0 v 0 16 16 false
theorem do_ok {N n v : Nat} (hN : 4294967296 ≤ N) {bl : List ByteArray} {r : Rec} (h16 : bl.length = 16) (hg : good r = true) :
    qfn P N (n + 1) n_impl_Record_do [r.enc, oB v] [tB v bl] = some ([], [tB v (doN r bl r.long.toNat)]) := by
  rw [impl_Record_do_eq]
  obtain ⟨g0, g1, g2, g3⟩ := good_long hg
  unfold P_impl_Record_do Rec.enc
  obtain ⟨m, hm⟩ : ∃ m : Nat, r.long = (m : Int) := ⟨r.long.toNat, by omega⟩
  simp only [a4_agg, hm, Int.toNat_natCast]
  refine Eq.trans (by simp [doN]) (loop_acc (F := P_impl_Record_do.l0 N (qfn P N n) 1) (N := N) (σ := Unit) (len := m) (fun i _ => ([oB v, .int .i64 (m : Nat), .int .i64 (i : Nat), .int .i64 r.kind, .int .i64 r.loc, .int .i64 (m : Nat), .str r.data] : List DV)) (fun i _ => [tB v (doN r bl i)]) (fun _ _ => True) (fun _ _ => some ([], [tB v (doN r bl m)]))
    ?_ ?_ m (i := 0) (s := ()) trivial (by omega) (by omega))
  · intro i _ rec hi _
    refine .inl ⟨(), trivial, ?_, rfl⟩
    obtain ⟨g4, g5⟩ := g2 (by omega)
    have hj : r.loc.toNat + i < (doN r bl i).length := by rw [doN_len, h16]; omega
    have hw : IntKind.i64.wrap (r.loc + (i : Nat)) = r.loc + (i : Nat) := wrapI (by constructor <;> omega)
    have hia := ia_tB (v := v) (bl := doN r bl i) (k := .i64) (a := r.loc + (i : Nat)) (j := r.loc.toNat + i) (by omega) hj
    rw [doN_len, h16] at hia
    unfold P_impl_Record_do.l0
    simp only [u7_list, qBin_lss, bd_some, qB_bool, Int.ofNat_lt, hi, decide_true, cond_true, qBin_eql, qBin_add, qBin_mul, hw, hia]
    rw [wrapI (n := (i : Int) + 1) (by constructor <;> omega), wrapI (n := 2 * (i : Int)) (by constructor <;> omega), wrapI (n := 2 * ((i : Int) + 1)) (by constructor <;> omega)]
    by_cases hk : r.kind = 1
    · have := g3 hk
      simp only [hk, decide_true, cond_true]
      rw [qSs_ok r.data i _ _ rfl (by omega) (by omega)]
      simp only [bd_some, st_tB hj, doN, piece, hk, if_true]
      rfl
    · simp only [hk, decide_false, cond_false]
      simp only [bd_some, st_tB hj, doN, piece, hk, if_false]
      rfl
  · intro _ rec _
    unfold P_impl_Record_do.l0
    simp
theorem l3Do_ok {N n v : Nat} (hN : 4294967296 ≤ N) {bl : List ByteArray} {r : Rec} (h16 : bl.length = 16) (hg : good r = true) :
    qfn P N (n + 1) n_spec_l3Do [oB v, r.enc] [tB v bl] = some ([], [tB v (doN r bl r.long.toNat)]) := by
  rw [spec_l3Do_eq]
  obtain ⟨g0, g1, g2, g3⟩ := good_long hg
  unfold P_spec_l3Do Rec.enc
  obtain ⟨m, hm⟩ : ∃ m : Nat, r.long = (m : Int) := ⟨r.long.toNat, by omega⟩
  simp only [a4_agg, hm, Int.toNat_natCast]
  refine Eq.trans (by simp [doN]) (loop_acc (F := P_spec_l3Do.l0 N (qfn P N n) 1) (N := N) (σ := Unit) (len := m) (fun i _ => ([oB v, .int .i64 (i : Nat), .int .i64 r.kind, .int .i64 r.loc, .int .i64 (m : Nat), .str r.data] : List DV)) (fun i _ => [tB v (doN r bl i)]) (fun _ _ => True) (fun _ _ => some ([], [tB v (doN r bl m)]))
    ?_ ?_ m (i := 0) (s := ()) trivial (by omega) (by omega))
  · intro i _ rec hi _
    refine .inl ⟨(), trivial, ?_, rfl⟩
    obtain ⟨g4, g5⟩ := g2 (by omega)
    have hj : r.loc.toNat + i < (doN r bl i).length := by rw [doN_len, h16]; omega
    have hj' : r.loc.toNat + i < ((doN r bl i).set (r.loc.toNat + i) Z2).length := by rw [List.length_set]; exact hj
    have hw : IntKind.i64.wrap (r.loc + (i : Nat)) = r.loc + (i : Nat) := wrapI (by constructor <;> omega)
    have hia := ia_tB (v := v) (bl := doN r bl i) (k := .i64) (a := r.loc + (i : Nat)) (j := r.loc.toNat + i) (by omega) hj
    have hia' := ia_tB (v := v) (bl := (doN r bl i).set (r.loc.toNat + i) Z2) (k := .i64) (a := r.loc + (i : Nat)) (j := r.loc.toNat + i) (by omega) hj'
    rw [doN_len, h16] at hia
    rw [List.length_set, doN_len, h16] at hia'
    unfold P_spec_l3Do.l0
    have hz : (DV.str ⟨#[0, 0]⟩) = .str Z2 := rfl
    simp only [u6_list, qBin_lss, bd_some, qB_bool, Int.ofNat_lt, hi, decide_true, cond_true, qBin_eql, qBin_add, qBin_mul, hw, hia, hz, st_tB hj]
    rw [wrapI (n := (i : Int) + 1) (by constructor <;> omega), wrapI (n := 2 * (i : Int)) (by constructor <;> omega), wrapI (n := 2 * (i : Int) + 2) (by constructor <;> omega)]
    by_cases hk : r.kind = 1
    · have := g3 hk
      simp only [hk, decide_true, cond_true]
      rw [qSs_ok r.data i _ _ rfl rfl (by omega)]
      simp only [bd_some, hia', st_tB hj', doN, piece, hk, if_true, List.set_set]
      rfl
    · simp only [hk, decide_false, cond_false]
      simp only [bd_some, doN, piece, hk, if_false]
      rfl
  · intro _ rec _
    unfold P_spec_l3Do.l0
    simp

def foldR (l : List Rec) (bl : List ByteArray) : List ByteArray := l.foldl (fun bl r => doN r bl r.long.toNat) bl
theorem foldR_len : ∀ (l : List Rec) (bl : List ByteArray), (foldR l bl).length = bl.length
  | [], bl => rfl
  | r :: l, bl => by
    have := foldR_len l (doN r bl r.long.toNat)
    rw [doN_len] at this
    exact this
theorem all_get {l : List Rec} (h : l.all good = true) {i : Nat} (hi : i < l.length) : good l[i] = true := List.all_eq_true.1 h _ (List.getElem_mem hi)

/-! shown to a call -/
theorem own_all {b : PB} {l : List DV} {n : Nat} (h : b.el = l) (hn : n = l.length) : (b.el.drop 0).take n = l := by subst hn; rw [h]; simp
theorem txt_cl (l : List ByteArray) : clL (l.map DV.str) = true := clL_map (fun _ => rfl) l
theorem snT {μ : PH} {i m : Nat} {b : PB} {s : List Sh} {O : List ByteArray} (hi : bk μ i 0 = some b) (hs : b.sh = [.sc]) (he : b.el = O.map DV.str) (hm : m = O.length) : sn μ s (.own i 0 0 m m false) = some (.sl [.sc] (O.map DV.str)) := by
  rw [← hs]; exact sn_own hi (own_all he (by simp [hm])) (txt_cl O)
theorem snR {μ : PH} {i m : Nat} {b : PB} {s : List Sh} {l : List Rec} (hi : bk μ i 0 = some b) (hs : b.sh = shRec) (he : b.el = l.map Rec.enc) (hm : m = l.length) : sn μ s (.own i 0 0 m m false) = some (.sl shRec (l.map Rec.enc)) := by
  rw [← hs]; exact sn_own hi (own_all he (by simp [hm])) (clL_map Rec.cl l)
theorem snI (μ : PH) (s : List Sh) (k : IntKind) (a : Int) : sn μ s (.int k a) = some (.int k a) := sn_cl _ _ rfl
end Go.Lg.Pv.Q
namespace Go.Lg.Pv.Q
open Go Go.Lg Go.Lg.Pv
set_option linter.unusedVariables false
set_option linter.unusedSimpArgs false
set_option maxRecDepth 100000

def szTs : List ByteArray → Int → Int
  | [], left => left
  | s :: l, left => if left - s.size < 0 then -1 else szTs l (left - s.size)
theorem szTs_le : ∀ {l : List ByteArray} {left : Int}, szTs l left ≤ left ∨ szTs l left < 0
  | [], left => .inl (by simp [szTs])
  | s :: l, left => by
    simp only [szTs]; split
    · exact .inr (by decide)
    · rcases szTs_le (l := l) (left := left - s.size) with h | h
      · left; omega
      · exact .inr h
def szTexts (l : List ByteArray) (left : Int) : Int := if left - l.length < 0 then -1 else szTs l (left - l.length)
theorem szStringS_ok {N n : Nat} (hN : 4294967296 ≤ N) (l : List ByteArray) (left : Int) (h0 : 0 ≤ left) (h1 : left ≤ 1048576) (hl : ∀ s ∈ l, (s.size : Int) ≤ 9223372036854775807) (hlen : (l.length : Int) ≤ 9223372036854775807) :
    run1 S_laws_szStringS (qfn P N (n + 1) n_laws_szStringS) [.sl [.sc] (l.map DV.str), .int .i64 left] = some ([.int .i64 (szTexts l left)], []) := by
  refine run1_of (ν := []) rfl rfl rfl (r := [.int .i64 (szTexts l left)]) ?_ (resO_sc rfl)
  rw [laws_szStringS_eq]
  unfold P_laws_szStringS szTexts
  simp
  rw [wrapI (n := left - (l.length : Nat)) (by constructor <;> omega)]
  split <;> rename_i hlt
  · rfl
  refine (loop_acc (σ := Int) (len := l.length) (fun i left => ([.sl [.sc] (l.map DV.str), .int .i64 left, .int .i64 (i : Nat)] : List DV)) (fun _ _ => []) (fun _ left => 0 ≤ left ∧ left ≤ 1048576) (fun i left => some ([DV.int .i64 (szTs (l.drop i) left)], []))
    ?_ ?_ l.length (i := 0) (s := left - l.length) ⟨by omega, by omega⟩ (by omega) (by omega)).trans (by simp)
  · intro i left rec hi ⟨g0, g1⟩
    have hx : l.drop i = l[i] :: l.drop (i + 1) := List.drop_eq_getElem_cons hi
    have hsz := hl _ (List.getElem_mem hi)
    unfold P_laws_szStringS.l0
    rw [hx]
    simp only [u3_list, qLen_sl, List.length_map, bd_some, qBin_lss, qB_bool, Int.ofNat_lt, hi, decide_true, cond_true, qIA_map _ (show [Sh.sc].length = 1 from rfl) hi, qLd_rp, cellsD_str, getC_one, List.getElem?_cons_zero, Option.map_some, b2_some, qLs_str, qBin_sub]
    rw [wrapI (n := left - (l[i].size : Nat)) (by constructor <;> omega)]
    by_cases hs : left - (l[i].size : Nat) < 0
    · refine .inr ?_
      simp [szTs, hs]
    · refine .inl ⟨left - (l[i].size : Nat), by omega, ?_, ?_⟩
      · simp only [hs, decide_false, cond_false, qBin_add, bd_some]
        rw [wrapI (n := (i : Int) + 1) (by constructor <;> omega)]
        rfl
      · simp [szTs, hs]
  · intro left rec _
    unfold P_laws_szStringS.l0
    simp [szTs]
/-- the block of a copy -/
def cpT (l : List ByteArray) (i : Nat) : PB := ⟨0, [.sc], (pre l ⟨#[]⟩ i).map DV.str, true, false, true⟩
theorem toStringS_ok {N n : Nat} (hN : 4294967296 ≤ N) (l : List ByteArray) (hlen : l.length ≤ 1048576) :
    run1 S_laws_toStringS (qfn P N (n + 1) n_laws_toStringS) [.sl [.sc] (l.map DV.str)] = some ([.sl [.sc] (l.map DV.str)], []) := by
  refine run1_of (ν := [cpT l l.length]) (ν' := kl [cpT l l.length] 0) rfl rfl rfl (r := [.own 0 0 0 l.length l.length true]) ?_ ?_
  · rw [laws_toStringS_eq]
    unfold P_laws_toStringS
    have h1 : (l.length : Int) * 16 ≤ 140737488355328 := by omega
    have h2 : (l.length : Int) ≤ 9223372036854775807 := by omega
    have hms : qMS [] [.sc] false [.str ⟨#[]⟩] 1 16 (.int .i64 l.length) (.int .i64 l.length) = some (.own 0 0 0 l.length l.length true, [cpT l 0]) := by
      simp [qMS, h1, h2, cpT, pre_zero, okC, isSc]
      exact .inr rfl
    simp only [qLen_sl, bd_some, List.length_map, hms, b2_some]
    refine (loop_acc (σ := Unit) (len := l.length) (fun i _ => ([.sl [.sc] (l.map DV.str), .own 0 0 0 l.length l.length true, .int .i64 (i : Nat)] : List DV)) (fun i _ => [cpT l i]) (fun _ _ => True) (fun i _ => some ([DV.own 0 0 0 l.length l.length true], [cpT l l.length]))
      ?_ ?_ l.length (i := 0) (s := ()) trivial (by omega) (by omega))
    · intro i _ rec hi _
      refine .inl ⟨(), trivial, ?_, rfl⟩
      unfold P_laws_toStringS.l0
      simp only [u3_list, qLen_sl, List.length_map, bd_some, qBin_lss, qB_bool, Int.ofNat_lt, hi, decide_true, cond_true, qIA_map _ (show [Sh.sc].length = 1 from rfl) hi, qLd_rp, cellsD_str, getC_one, List.getElem?_cons_zero, Option.map_some, b2_some]
      have hb : bk [cpT l i] 0 0 = some (cpT l i) := rfl
      have hg : (cpT l i).el[i]? = some (.str ((pre l ⟨#[]⟩ i)[i]'(by rw [pre_len _ _ _ (by omega)]; exact hi))) := by simp [cpT, pre_len _ _ _ (Nat.le_of_lt hi), hi]
      simp only [qIA_own (size := 1) hb rfl hi (show (cpT l i).sh.length = 1 from rfl), bd_some, Nat.zero_add]
      rw [qSt_ptr (size := 1) (cs := [.str l[i]]) hb hg rfl (Nat.le_refl 1) rfl]
      simp only [bd_some, qBin_add]
      rw [wrapI (n := (i : Int) + 1) (by constructor <;> omega)]
      have : ([cpT l i].set 0 { cpT l i with el := (cpT l i).el.set i (.str l[i]) }) = [cpT l (i + 1)] := by
        simp [cpT, ← pre_set l ⟨#[]⟩ i hi, List.map_set]
      exact congrArg (rec _) this
    · intro _ rec _
      unfold P_laws_toStringS.l0
      simp
  · have hb : bk [cpT l l.length] 0 0 = some (cpT l l.length) := rfl
    have he : ((cpT l l.length).el.drop 0).take l.length = l.map DV.str := by simp only [cpT, pre_last, List.drop_zero]; exact List.take_of_length_le (by simp)
    have hc : clL (l.map DV.str) = true := txt_cl l
    simp only [resO, S_laws_toStringS, onS, tk_own hb rfl rfl he hc, Option.bind_some]
    rfl
end Go.Lg.Pv.Q
namespace Go.Lg.Pv.Q
open Go Go.Lg Go.Lg.Pv
set_option linter.unusedVariables false
set_option linter.unusedSimpArgs false
set_option maxRecDepth 100000

structure Vol where
  base : List ByteArray
  folded : Int
  log : List Rec
  sure : Int
  deriving DecidableEq
abbrev shVol : List Sh := [.sl [.sc], .sc, .sl shRec, .sc]
def Vol.enc (v : Vol) : DV := .agg [.sl [.sc] (v.base.map DV.str), .int .i64 v.folded, .sl shRec (v.log.map Rec.enc), .int .i64 v.sure]
theorem txts_cl (l : List ByteArray) : cl (.sl [.sc] (l.map DV.str)) = true := by simp only [Pv.cl]; exact txt_cl l
theorem Vol.cl (v : Vol) : Pv.cl v.enc = true := by
  have h1 := txt_cl v.base
  have h2 := clL_map Rec.cl v.log
  simp [Vol.enc, Pv.cl, clL, h1, h2]
structure Vol.ok (v : Vol) : Prop where
  b1 : ∀ s ∈ v.base, (s.size : Int) ≤ 9223372036854775807
  b2 : (v.base.length : Int) ≤ 9223372036854775807
  l1 : ∀ r ∈ v.log, r.ok
  l2 : (v.log.length : Int) ≤ 9223372036854775807
  f : inI v.folded
  s : inI v.sure
def szRs (l : List Rec) (left : Int) : Int := if left - l.length < 0 then -1 else szRecs l (left - l.length)
def szVol (v : Vol) (left : Int) : Int := if szTexts v.base left < 0 then -1 else if szRs v.log (szTexts v.base left) < 0 then -1 else szRs v.log (szTexts v.base left)
theorem szTexts_le {l : List ByteArray} {left : Int} (h : ¬ szTexts l left < 0) : szTexts l left + l.length ≤ left := by
  unfold szTexts at h ⊢
  split
  · rename_i h'; rw [if_pos h'] at h; exact absurd (by decide) h
  · rename_i h'; rw [if_neg h'] at h
    rcases szTs_le (l := l) (left := left - l.length) with h'' | h''
    · omega
    · exact absurd h'' h
theorem szVol_le {v : Vol} {left : Int} (h1 : left ≤ 1048576) (h : ¬ szVol v left < 0) : v.base.length ≤ 1048576 ∧ v.log.length ≤ 1048576 := by
  unfold szVol at h
  split at h
  · exact absurd (by decide) h
  · rename_i h2
    have := szTexts_le h2
    split at h
    · exact absurd (by decide) h
    · rename_i h3
      unfold szRs at h3
      split at h3
      · exact absurd (by decide) h3
      · omega
theorem szVolume_ok {N n : Nat} (hN : 4294967296 ≤ N) (v : Vol) (hv : v.ok) (left : Int) (h0 : 0 ≤ left) (h1 : left ≤ 1048576) :
    run1 S_laws_szVolume (qfn P N (n + 3) n_laws_szVolume) [v.enc, .int .i64 left] = some ([.int .i64 (szVol v left)], []) := by
  refine run1_of (ν := []) rfl rfl rfl (r := [.int .i64 (szVol v left)]) ?_ (resO_sc rfl)
  rw [laws_szVolume_eq]
  unfold P_laws_szVolume Vol.enc szVol
  simp only [a4_agg]
  rw [cq_sn (args' := [.sl [.sc] (v.base.map DV.str), .int .i64 left]) rfl (by simp only [sns, S_laws_szStringS, sn_cl _ _ (txts_cl v.base), snI, Option.bind_some]) (szStringS_ok (n := n + 1) hN v.base left h0 h1 hv.b1 hv.b2) rfl, adL_sc rfl]
  simp only [c1_some, u1_list, qBin_lss, bd_some, qB_bool]
  by_cases hs : szTexts v.base left < 0
  · simp [hs]
  · have := szTexts_le hs
    simp only [hs, decide_false, cond_false, if_false]
    rw [cq_sn (args' := [.sl shRec (v.log.map Rec.enc), .int .i64 (szTexts v.base left)]) rfl (by simp only [sns, S_laws_szRecordS, sn_cl _ _ (recs_cl v.log), snI, Option.bind_some]) (szRecordS_ok (n := n) hN v.log (szTexts v.base left) (by omega) (by omega) hv.l1 hv.l2) rfl, adL_sc rfl]
    simp only [c1_some, u1_list, qBin_lss, bd_some, qB_bool]
    by_cases h2 : szRs v.log (szTexts v.base left) < 0
    · have h3 := h2
      unfold szRs at h3
      simp [h2, h3]
    · have h3 := h2
      unfold szRs at h3
      simp [h2, h3]
      rfl
def rB (l : List Rec) : PB := ⟨0, shRec, l.map Rec.enc, true, false, true⟩
theorem cq_toS {N n : Nat} (hN : 4294967296 ≤ N) (l : List ByteArray) (hlen : l.length ≤ 1048576) (μ : PH) : cq S_laws_toStringS (qfn P N (n + 1) n_laws_toStringS) [.sl [.sc] (l.map DV.str)] μ = some ([.own μ.length 0 0 l.length l.length false], μ ++ [tB 0 l]) := by
  rw [cq_sn (args' := [.sl [.sc] (l.map DV.str)]) rfl (by simp only [sns, S_laws_toStringS, sn_cl _ _ (txts_cl l), Option.bind_some]) (toStringS_ok hN l hlen) rfl, adL_sl]
  simp only [List.length_map]; rfl
theorem cq_toR {N n : Nat} (hN : 4294967296 ≤ N) (l : List Rec) (hlen : l.length ≤ 1048576) (μ : PH) : cq S_laws_toRecordS (qfn P N (n + 2) n_laws_toRecordS) [.sl shRec (l.map Rec.enc)] μ = some ([.own μ.length 0 0 l.length l.length false], μ ++ [rB l]) := by
  rw [cq_sn (args' := [.sl shRec (l.map Rec.enc)]) rfl (by simp only [sns, S_laws_toRecordS, sn_cl _ _ (recs_cl l), Option.bind_some]) (toRecordS_ok hN l hlen) rfl, adL_sl]
  simp only [List.length_map]; rfl
theorem toVolume_ok {N n : Nat} (hN : 4294967296 ≤ N) (v : Vol) (h1 : v.base.length ≤ 1048576) (h2 : v.log.length ≤ 1048576) :
    run1 S_laws_toVolume (qfn P N (n + 3) n_laws_toVolume) [v.enc] = some ([v.enc], []) := by
  refine run1_of rfl rfl rfl (r := [.agg [.own 0 0 0 v.base.length v.base.length false, .int .i64 v.folded, .own 1 0 0 v.log.length v.log.length false, .int .i64 v.sure]]) (ν := [tB 0 v.base, rB v.log]) (ν' := kl (kl [tB 0 v.base, rB v.log] 0) 1) ?_ ?_
  · rw [laws_toVolume_eq]
    unfold P_laws_toVolume Vol.enc
    simp only [a4_agg]
    rw [cq_toS (n := n + 1) hN v.base h1]
    simp only [c1_some, u1_list, s1_own, s1_int, List.nil_append, List.length_nil]
    rw [cq_toR (n := n) hN v.log h2]
    simp only [c1_some, u1_list, s1_own, s1_int, a4_agg, List.length_cons, List.length_nil, List.cons_append, List.nil_append, Nat.zero_add]
  · have hb : bk [tB 0 v.base, rB v.log] 0 0 = some (tB 0 v.base) := rfl
    have hb2 : bk (kl [tB 0 v.base, rB v.log] 0) 1 0 = some (rB v.log) := rfl
    have t1 := tk_own (s := .sl [.sc]) (x := false) (c := v.base.length) hb rfl rfl (own_all (b := tB 0 v.base) (l := v.base.map DV.str) (n := v.base.length) rfl (by simp)) (txt_cl v.base)
    have t2 := tk_own (s := .sl shRec) (x := false) (c := v.log.length) hb2 rfl rfl (own_all (b := rB v.log) (l := v.log.map Rec.enc) (n := v.log.length) rfl (by simp)) (clL_map Rec.cl v.log)
    have t3 : ∀ (μ : PH) (s : Sh) (k : IntKind) (a : Int), tkC μ s (.int k a) = some (.int k a, μ) := fun _ _ _ _ => rfl
    simp only [resO, S_laws_toVolume, onS, zipS, List.headD_cons, List.tail_cons, t1, t2, t3, Option.bind_some, Option.map_some]
    rfl
theorem eqVolume_ok {N n : Nat} (hN : 4294967296 ≤ N) (a b : Vol) (h1 : a.base.length ≤ 1048576) (h2 : a.log.length ≤ 1048576) (h3 : b.base.length ≤ 1048576) (h4 : b.log.length ≤ 1048576) :
    run1 S_laws_eqVolume (qfn P N (n + 3) n_laws_eqVolume) [a.enc, b.enc] = some ([.bool (decide (a = b))], []) := by
  refine run1_of (ν := []) rfl rfl rfl (r := [.bool (decide (a = b))]) ?_ (resO_sc rfl)
  rw [laws_eqVolume_eq]
  unfold P_laws_eqVolume Vol.enc
  simp only [a4_agg]
  rw [cq_sn (args' := [.sl [.sc] (a.base.map DV.str), .sl [.sc] (b.base.map DV.str)]) rfl (by simp only [sns, S_laws_eqStringS, sn_cl _ _ (txts_cl a.base), sn_cl _ _ (txts_cl b.base), Option.bind_some]) (eqStringS_ok (n := n + 1) hN a.base b.base h1 h3) rfl, adL_sc rfl]
  have hR := cq_sn (μ := []) (args := [.sl shRec (a.log.map Rec.enc), .sl shRec (b.log.map Rec.enc)]) (args' := [.sl shRec (a.log.map Rec.enc), .sl shRec (b.log.map Rec.enc)]) (s := S_laws_eqRecordS) rfl (by simp only [sns, S_laws_eqRecordS, sn_cl _ _ (recs_cl a.log), sn_cl _ _ (recs_cl b.log), Option.bind_some]) (eqRecordS_ok (n := n) hN a.log b.log h2 h4) rfl
  rw [adL_sc rfl] at hR
  have he : a = b ↔ a.base = b.base ∧ a.folded = b.folded ∧ a.log = b.log ∧ a.sure = b.sure := by cases a; cases b; simp
  simp only [c1_some, u1_list, qUn_not, bd_some, qB_bool, qBin_neq, hR]
  by_cases e1 : a.base = b.base <;> by_cases e2 : a.folded = b.folded <;> by_cases e3 : a.log = b.log <;> by_cases e4 : a.sure = b.sure <;> simp [he, e1, e2, e3, e4]
end Go.Lg.Pv.Q
namespace Go.Lg.Pv.Q
open Go Go.Lg Go.Lg.Pv
set_option linter.unusedVariables false
set_option linter.unusedSimpArgs false
set_option maxRecDepth 100000

abbrev two (s : ByteArray) : Bool := decide ((s.size : Int) = 2)
abbrev fData : DV := .fn n_impl_isData [] []
abbrev fNotD : DV := .fn n_impl_areAll_string_1 [] [.rp fData 0]
theorem notData_ok {N n : Nat} (μ : PH) (s : ByteArray) : qfn P N (n + 2) n_impl_areAll_string_1 [.str s, .rp fData 0] μ = some ([.bool (!two s)], μ) := by
  rw [impl_areAll_string_1_eq]
  unfold P_impl_areAll_string_1
  have hg : getC (cellsD fData) 0 1 false = some fData := rfl
  have hd : qfn P N (n + 1) n_impl_isData [.str s] μ = some ([.bool (two s)], μ) := by
    rw [impl_isData_eq]; unfold P_impl_isData; simp
  simp only [qLd_rp, hg, Option.map_some, b2_some, qF_fn, List.nil_append, List.append_nil, List.singleton_append, hd, c1_some, u1_list, qUn_not, bd_some]
def ixd : List ByteArray → Nat → Int
  | [], _ => -1
  | r :: l, i => if two r then ixd l (i + 1) else i
theorem ixd_all : ∀ (l : List ByteArray) (i : Nat), decide (ixd l i ≥ 0) = !l.all two
  | [], i => rfl
  | r :: l, i => by
    simp only [ixd, List.all_cons]
    by_cases h : two r = true
    · simp only [h, if_true, Bool.true_and]; exact ixd_all l (i + 1)
    · simp [h]
theorem ixd_ok {N n : Nat} (hN : 4294967296 ≤ N) (l : List ByteArray) (hlen : l.length ≤ 1048576) :
    run1 S_slices_IndexFunc_string_string (qfn P N (n + 3) n_slices_IndexFunc_string_string) [.sl [.sc] (l.map DV.str), fNotD] = some ([.int .i64 (ixd l 0)], []) := by
  refine run1_of (ν := []) rfl rfl rfl (r := [.int .i64 (ixd l 0)]) ?_ (resO_sc rfl)
  rw [slices_IndexFunc_string_string_eq]
  unfold P_slices_IndexFunc_string_string
  refine Eq.trans (by simp) (loop_acc (F := P_slices_IndexFunc_string_string.l0 N (qfn P N (n + 2)) 0) (N := N) (σ := Unit) (len := l.length) (fun i _ => ([.sl [.sc] (l.map DV.str), fNotD, .int .i64 (l.length : Nat), .int .i64 (i : Nat)] : List DV)) (fun _ _ => []) (fun _ _ => True) (fun i _ => some ([DV.int .i64 (ixd (l.drop i) i)], []))
    ?_ ?_ l.length (i := 0) (s := ()) trivial (by omega) (by omega))
  · intro i _ rec hi _
    have hx : l.drop i = l[i] :: l.drop (i + 1) := List.drop_eq_getElem_cons hi
    rw [hx]
    unfold P_slices_IndexFunc_string_string.l0
    simp only [u4_list, bd_some, qBin_lss, qB_bool, Int.ofNat_lt, hi, decide_true, cond_true, qIA_map _ (show [Sh.sc].length = 1 from rfl) hi, qLd_rp, cellsD_str, getC_one, List.getElem?_cons_zero, Option.map_some, b2_some, qF_fn, List.nil_append, List.singleton_append, notData_ok, c1_some, u1_list, ixd]
    cases hg : two l[i]
    · refine .inr ?_; rfl
    · refine .inl ⟨(), trivial, ?_, rfl⟩
      simp only [Bool.not_true, cond_false, qBin_add, bd_some]
      rw [wrapI (n := (i : Int) + 1) (by constructor <;> omega)]
      rfl
  · intro _ rec _
    unfold P_slices_IndexFunc_string_string.l0
    simp [ixd]
theorem containsD_ok {N n : Nat} (hN : 4294967296 ≤ N) (l : List ByteArray) (hlen : l.length ≤ 1048576) :
    run1 S_slices_ContainsFunc_string_string (qfn P N (n + 4) n_slices_ContainsFunc_string_string) [.sl [.sc] (l.map DV.str), fNotD] = some ([.bool (!l.all two)], []) := by
  refine run1_of (ν := []) rfl rfl rfl (r := [.bool (!l.all two)]) ?_ (resO_sc rfl)
  rw [slices_ContainsFunc_string_string_eq]
  unfold P_slices_ContainsFunc_string_string
  rw [cq_sn (args' := [.sl [.sc] (l.map DV.str), fNotD]) rfl (by simp only [sns, S_slices_IndexFunc_string_string, sn_cl _ _ (txts_cl l), sn_cl _ _ (show cl fNotD = true from rfl), Option.bind_some]) (ixd_ok (n := n) hN l hlen) rfl, adL_sc rfl]
  simp only [c1_some, u1_list, qBin_geq, bd_some, ixd_all]
theorem areAllD_ok {N n : Nat} (hN : 4294967296 ≤ N) (l : List ByteArray) (hlen : l.length ≤ 1048576) :
    run1 S_impl_areAll_string (qfn P N (n + 5) n_impl_areAll_string) [.sl [.sc] (l.map DV.str), fData] = some ([.bool (l.all two)], []) := by
  refine run1_of (ν := [⟨0, [.sc], [fData], true, true, true⟩]) rfl rfl rfl (r := [.bool (l.all two)]) ?_ (resO_sc rfl)
  rw [impl_areAll_string_eq]
  unfold P_impl_areAll_string
  have ha : qAl [] true [.sc] false [fData] = some (.ptr 0 0 0 0, [⟨0, [.sc], [fData], true, true, true⟩]) := rfl
  simp only [s1_fn, ha, b2_some]
  have hs : sns [⟨0, [.sc], [fData], true, true, true⟩] S_slices_ContainsFunc_string_string.ps [.sl [.sc] (l.map DV.str), .fn n_impl_areAll_string_1 [] [.ptr 0 0 0 0]] = some [.sl [.sc] (l.map DV.str), fNotD] := by
    simp only [sns, S_slices_ContainsFunc_string_string, sn_cl _ _ (txts_cl l), Option.bind_some]
    rfl
  rw [cq_sn rfl hs (containsD_ok (n := n) hN l hlen) rfl, adL_sc rfl]
  simp only [c1_some, u1_list, qUn_not, bd_some, Bool.not_not]
def isBl (b : List ByteArray) : Bool := decide ((b.length : Int) = 16) && b.all two
theorem areBlocks_ok {N n : Nat} (hN : 4294967296 ≤ N) (b : List ByteArray) (hlen : b.length ≤ 1048576) (μ : PH) :
    cq S_impl_areBlocks (qfn P N (n + 6) n_impl_areBlocks) [.sl [.sc] (b.map DV.str)] μ = some ([.bool (isBl b)], μ) := by
  rw [cq_sn (args' := [.sl [.sc] (b.map DV.str)]) (res := [.bool (isBl b)]) rfl (by simp only [sns, S_impl_areBlocks, sn_cl _ _ (txts_cl b), Option.bind_some]) ?_ rfl, adL_sc rfl]
  refine run1_of (ν := []) rfl rfl rfl (r := [.bool (isBl b)]) ?_ (resO_sc rfl)
  rw [impl_areBlocks_eq]
  unfold P_impl_areBlocks isBl
  simp only [qLen_sl, List.length_map, bd_some, qBin_eql, qB_bool]
  rw [cq_sn (args' := [.sl [.sc] (b.map DV.str), fData]) rfl (by simp only [sns, S_impl_areAll_string, sn_cl _ _ (txts_cl b), sn_cl _ _ (show cl fData = true from rfl), Option.bind_some]) (areAllD_ok (n := n) hN b hlen) rfl, adL_sc rfl]
  by_cases h : (b.length : Int) = 16 <;> simp [h]
theorem l6Blocks_ok {N n : Nat} (hN : 4294967296 ≤ N) (b : List ByteArray) (hlen : b.length ≤ 1048576) (μ : PH) :
    cq S_spec_l6Blocks (qfn P N (n + 1) n_spec_l6Blocks) [.sl [.sc] (b.map DV.str)] μ = some ([.bool (isBl b)], μ) := by
  rw [cq_sn (args' := [.sl [.sc] (b.map DV.str)]) (res := [.bool (isBl b)]) rfl (by simp only [sns, S_spec_l6Blocks, sn_cl _ _ (txts_cl b), Option.bind_some]) ?_ rfl, adL_sc rfl]
  refine run1_of (ν := []) rfl rfl rfl (r := [.bool (isBl b)]) ?_ (resO_sc rfl)
  rw [spec_l6Blocks_eq]
  unfold P_spec_l6Blocks isBl
  refine Eq.trans (by simp) (loop_acc (F := P_spec_l6Blocks.l0 N (qfn P N n) 0) (N := N) (σ := Unit) (len := b.length) (fun i _ => ([.sl [.sc] (b.map DV.str), .sl [.sc] (b.map DV.str), .int .i64 (b.length : Nat), .int .i64 (i : Nat)] : List DV)) (fun _ _ => []) (fun _ _ => True) (fun i _ => some ([DV.bool (decide ((b.length : Int) = 16) && (b.drop i).all two)], []))
    ?_ ?_ b.length (i := 0) (s := ()) trivial (by omega) (by omega))
  · intro i _ rec hi _
    have hx : b.drop i = b[i] :: b.drop (i + 1) := List.drop_eq_getElem_cons hi
    rw [hx]
    unfold P_spec_l6Blocks.l0
    simp only [u4_list, bd_some, qBin_lss, qB_bool, Int.ofNat_lt, hi, decide_true, cond_true, qIA_map _ (show [Sh.sc].length = 1 from rfl) hi, qLd_rp, cellsD_str, getC_one, List.getElem?_cons_zero, Option.map_some, b2_some, qLs_str, qBin_neq, List.all_cons]
    by_cases hg : (b[i].size : Int) = 2
    · refine .inl ⟨(), trivial, ?_, by simp [two, hg]⟩
      simp only [hg, ne_eq, not_true_eq_false, decide_false, cond_false, qBin_add, bd_some]
      rw [wrapI (n := (i : Int) + 1) (by constructor <;> omega)]
      rfl
    · refine .inr ?_
      simp [two, hg]
  · intro _ rec _
    unfold P_spec_l6Blocks.l0
    simp
def ordV : List Rec → Int → Bool
  | [], _ => true
  | r :: l, f => if r.kind = 3 then (if r.loc = f + 1 then ordV l (f + 1) else false) else ordV l f
def goodV (v : Vol) : Bool := isBl v.base && decide (v.log.length ≤ 40) && v.log.all good && (decide (0 ≤ v.sure) && decide (v.sure ≤ v.log.length)) && (decide (0 ≤ v.folded) && decide (v.folded ≤ 200)) && ordV v.log v.folded
theorem ord_loop {N : Nat} {call : CW} {bs : Nat} (hN : 4294967296 ≤ N) (l : List Rec) (h40 : l.length ≤ 40) (f : Int) (h0 : 0 ≤ f) (h1 : f ≤ 200) :
    iterD (P_impl_GoodVolume.l0 N call bs) N [.int .i64 f, .sl shRec (l.map Rec.enc), .int .i64 (l.length : Nat), .int .i64 0] [] = some ([.bool (ordV l f)], []) := by
  refine Eq.trans (by simp) (loop_acc (F := P_impl_GoodVolume.l0 N call bs) (N := N) (σ := Int) (len := l.length) (fun i f => ([.int .i64 f, .sl shRec (l.map Rec.enc), .int .i64 (l.length : Nat), .int .i64 (i : Nat)] : List DV)) (fun _ _ => []) (fun i f => 0 ≤ f ∧ f ≤ 200 + (i : Nat)) (fun i f => some ([DV.bool (ordV (l.drop i) f)], []))
    ?_ ?_ l.length (i := 0) (s := f) ⟨h0, by omega⟩ (by omega) (by omega))
  · intro i f rec hi ⟨g0, g1⟩
    have hx : l.drop i = l[i] :: l.drop (i + 1) := List.drop_eq_getElem_cons hi
    rw [hx]
    unfold P_impl_GoodVolume.l0
    simp only [u4_list, bd_some, qBin_lss, qB_bool, Int.ofNat_lt, hi, decide_true, cond_true, qIA_map _ (show shRec.length = 4 from rfl) hi, qLd_rp, Rec.get, Option.map_some, b2_some]
    unfold Rec.enc
    simp only [a4_agg, qBin_eql, qBin_add, bd_some, qB_bool, qBin_neq]
    rw [wrapI (n := (i : Int) + 1) (by constructor <;> omega), wrapI (n := f + 1) (by constructor <;> omega)]
    by_cases hk : l[i].kind = 3
    · by_cases hl : l[i].loc = f + 1
      · refine .inl ⟨f + 1, by omega, ?_, by simp [ordV, hk, hl]⟩
        simp only [hk, hl, decide_true, cond_true, ne_eq, not_true_eq_false, decide_false, cond_false]
        rfl
      · refine .inr ?_
        simp [ordV, hk, hl]
    · refine .inl ⟨f, by omega, ?_, by simp [ordV, hk]⟩
      simp only [hk, decide_false, cond_false]
      rfl
  · intro f rec _
    unfold P_impl_GoodVolume.l0
    simp [ordV]
end Go.Lg.Pv.Q
namespace Go.Lg.Pv.Q
open Go Go.Lg Go.Lg.Pv
set_option linter.unusedVariables false
set_option linter.unusedSimpArgs false
set_option maxRecDepth 100000

theorem cq_good {N n : Nat} (hN : 4294967296 ≤ N) (l : List Rec) (hlen : l.length ≤ 1048576) (μ : PH) : cq S_impl_areAll_impl_Record (qfn P N (n + 6) n_impl_areAll_impl_Record) [.sl shRec (l.map Rec.enc), fGood] μ = some ([.bool (l.all good)], μ) := by
  rw [cq_sn (args' := [.sl shRec (l.map Rec.enc), fGood]) rfl (by simp only [sns, S_impl_areAll_impl_Record, sn_cl _ _ (recs_cl l), sn_cl _ _ (show cl fGood = true from rfl), Option.bind_some]) (areAll_ok (n := n) hN l hlen) rfl, adL_sc rfl]
theorem cq_l3Good {N n : Nat} (hN : 4294967296 ≤ N) (l : List Rec) (hlen : l.length ≤ 1048576) (μ : PH) : cq S_spec_l3Good (qfn P N (n + 4) n_spec_l3Good) [.sl shRec (l.map Rec.enc)] μ = some ([.bool (l.all good)], μ) := by
  rw [cq_sn (args' := [.sl shRec (l.map Rec.enc)]) rfl (by simp only [sns, S_spec_l3Good, sn_cl _ _ (recs_cl l), Option.bind_some]) (l3Good_ok (n := n) hN l hlen) rfl, adL_sc rfl]
theorem goodVI {N n : Nat} (hN : 4294967296 ≤ N) (v : Vol) (h1 : v.base.length ≤ 1048576) (h2 : v.log.length ≤ 1048576) (μ : PH) :
    cq S_impl_GoodVolume (qfn P N (n + 7) n_impl_GoodVolume) [v.enc] μ = some ([.bool (goodV v)], μ) := by
  rw [cq_sn (args' := [v.enc]) (res := [.bool (goodV v)]) rfl (by simp only [sns, S_impl_GoodVolume, sn_cl _ _ (Vol.cl v), Option.bind_some]) ?_ rfl, adL_sc rfl]
  refine run1_of (ν := []) rfl rfl rfl (r := [.bool (goodV v)]) ?_ (resO_sc rfl)
  rw [impl_GoodVolume_eq]
  unfold P_impl_GoodVolume goodV Vol.enc
  simp only [a4_agg, areBlocks_ok (n := n) hN v.base h1, c1_some, u1_list, qUn_not, bd_some, qB_bool, qLen_sl, List.length_map, qBin_gtr, cq_good (n := n) hN v.log h2, within_ok]
  cases e1 : isBl v.base
  · simp
  by_cases e2 : v.log.length ≤ 40
  · cases e3 : v.log.all good
    · simp [show ¬ ((v.log.length : Int) > 40) by omega]
    · have hlp : 0 ≤ v.folded → v.folded ≤ 200 → iterD (P_impl_GoodVolume.l0 N (qfn P N (n + 6)) 0) N [.int .i64 v.folded, .sl shRec (v.log.map Rec.enc), .int .i64 (v.log.length : Nat), .int .i64 0] [] = some ([.bool (ordV v.log v.folded)], []) := fun e6 e7 => ord_loop (bs := 0) (call := qfn P N (n + 6)) hN v.log e2 v.folded e6 e7
      have e8 : ¬ ((v.log.length : Int) > 40) := by omega
      by_cases e4 : 0 ≤ v.sure <;> by_cases e5 : v.sure ≤ v.log.length <;> by_cases e6 : 0 ≤ v.folded <;> by_cases e7 : v.folded ≤ 200 <;> simp [e8, e2, e4, e5, e6, e7, hlp]
  · simp [show ((v.log.length : Int) > 40) by omega, e2]
theorem goodVS {N n : Nat} (hN : 4294967296 ≤ N) (v : Vol) (h1 : v.base.length ≤ 1048576) (h2 : v.log.length ≤ 1048576) (μ : PH) :
    cq S_spec_GoodVolume (qfn P N (n + 7) n_spec_GoodVolume) [v.enc] μ = some ([.bool (goodV v)], μ) := by
  rw [cq_sn (args' := [v.enc]) (res := [.bool (goodV v)]) rfl (by simp only [sns, S_spec_GoodVolume, sn_cl _ _ (Vol.cl v), Option.bind_some]) ?_ rfl, adL_sc rfl]
  refine run1_of (ν := []) rfl rfl rfl (r := [.bool (goodV v)]) ?_ (resO_sc rfl)
  rw [spec_GoodVolume_eq]
  unfold P_spec_GoodVolume goodV Vol.enc
  simp only [a4_agg, l6Blocks_ok (n := n + 5) hN v.base h1, c1_some, u1_list, qUn_not, bd_some, qB_bool, qLen_sl, List.length_map, qBin_gtr, cq_l3Good (n := n + 2) hN v.log h2, l1In_ok]
  cases e1 : isBl v.base
  · simp
  by_cases e2 : v.log.length ≤ 40
  · cases e3 : v.log.all good
    · simp [show ¬ ((v.log.length : Int) > 40) by omega]
    · have hlp : 0 ≤ v.folded → v.folded ≤ 200 → iterD (P_spec_GoodVolume.l0 N (qfn P N (n + 6)) 0) N [.int .i64 v.folded, .sl shRec (v.log.map Rec.enc), .int .i64 (v.log.length : Nat), .int .i64 0] [] = some ([.bool (ordV v.log v.folded)], []) := fun e6 e7 => ord_loop (bs := 0) (call := qfn P N (n + 6)) hN v.log e2 v.folded e6 e7
      have e8 : ¬ ((v.log.length : Int) > 40) := by omega
      by_cases e4 : 0 ≤ v.sure <;> by_cases e5 : v.sure ≤ v.log.length <;> by_cases e6 : 0 ≤ v.folded <;> by_cases e7 : v.folded ≤ 200 <;> simp [e8, e2, e4, e5, e6, e7, hlp]
  · simp [show ((v.log.length : Int) > 40) by omega, e2]
theorem goodV_get {v : Vol} (h : goodV v = true) : v.base.length = 16 ∧ v.log.length ≤ 40 ∧ v.log.all good = true := by
  unfold goodV isBl at h
  simp only [Bool.and_eq_true, decide_eq_true_eq] at h
  exact ⟨by omega, by omega, by simp_all⟩
theorem flatL_txt : ∀ l : List ByteArray, flatL (l.map DV.str) = true
  | [] => rfl
  | x :: r => by simp [flatL, flat, flatL_txt r]
theorem qAp_txt {l : List ByteArray} (h0 : 0 < l.length) (h1 : l.length ≤ 1048576) : qAp [] false [.sc] 1 16 (.e0 1) (.sl [.sc] (l.map DV.str)) = some (.own 0 l.length 0 l.length l.length false, [tB l.length l]) := by
  have h2 : ((l.length : Nat) : Int) * 16 ≤ 140737488355328 := by omega
  simp [qAp, elsOf, putEs, flatL_txt, show ¬ l = [] by intro h; subst h; simp at h0, tB]
  omega
theorem cloneT_ok {N n : Nat} (l : List ByteArray) (hlen : l.length ≤ 1048576) : run1 S_slices_Clone_string_string (qfn P N (n + 1) n_slices_Clone_string_string) [.sl [.sc] (l.map DV.str)] = some ([.sl [.sc] (l.map DV.str)], []) :=
  clone_run (T := 9) (by_ := 16) (agg := false) (zero := [.str ⟨#[]⟩]) rfl (by rw [slices_Clone_string_string_eq]; rfl) rfl rfl (flatL_txt l) (txt_cl l) (by simp; omega) (by decide) (by simp; omega)
theorem clone_ok {N n : Nat} {l : List ByteArray} (h16 : l.length = 16) : run1 S_slices_Clone_string_string (qfn P N (n + 1) n_slices_Clone_string_string) [.sl [.sc] (l.map DV.str)] = some ([.sl [.sc] (l.map DV.str)], []) := cloneT_ok l (by omega)
theorem res_oB (u : Nat) {bl : List ByteArray} (h16 : bl.length = 16) : resO [[.sl [.sc]]] [oB u] [tB u bl] = some ([.sl [.sc] (bl.map DV.str)], kl [tB u bl] 0) := by
  have hb : bk [tB u bl] 0 u = some (tB u bl) := by simp [bk, tB]
  have t1 := tk_own (s := .sl [.sc]) (x := false) (c := 16) hb rfl rfl (own_all (b := tB u bl) (l := bl.map DV.str) (n := 16) rfl (by simp [h16])) (txt_cl bl)
  simp only [resO, onS, List.headD_cons, t1, Option.bind_some]
  rfl
theorem blocks_ok {N n : Nat} (hN : 4294967296 ≤ N) (v : Vol) (h16 : v.base.length = 16) (h40 : v.log.length ≤ 40) (hg : v.log.all good = true) :
    run1 S_impl_Volume_blocks (qfn P N (n + 2) n_impl_Volume_blocks) [v.enc] = some ([.sl [.sc] ((foldR v.log v.base).map DV.str)], []) := by
  refine run1_of rfl rfl rfl (r := [oB 0]) (ν := [tB 0 (foldR v.log v.base)]) ?_ (res_oB 0 (by rw [foldR_len]; exact h16))
  rw [impl_Volume_blocks_eq]
  unfold P_impl_Volume_blocks Vol.enc
  have hc : cq S_slices_Clone_string_string (qfn P N (n + 1) n_slices_Clone_string_string) [.sl [.sc] (v.base.map DV.str)] [] = some ([oB 0], [tB 0 v.base]) := by
    rw [cq_sn (args' := [.sl [.sc] (v.base.map DV.str)]) rfl (by simp only [sns, S_slices_Clone_string_string, sn_cl _ _ (txts_cl v.base), Option.bind_some]) (clone_ok (n := n) h16) rfl, adL_sl]
    simp only [List.length_map, h16]; rfl
  simp only [a4_agg, hc, c1_some, u1_list, qLen_sl, List.length_map, bd_some]
  refine (loop_acc (F := P_impl_Volume_blocks.l0 N (qfn P N (n + 1)) 0) (N := N) (σ := List ByteArray) (len := v.log.length) (fun i _ => ([oB 0, .sl shRec (v.log.map Rec.enc), .int .i64 (v.log.length : Nat), .int .i64 (i : Nat)] : List DV)) (fun _ bl => [tB 0 bl]) (fun _ bl => bl.length = 16) (fun i bl => some ([oB 0], [tB 0 (foldR (v.log.drop i) bl)]))
    ?_ ?_ v.log.length (i := 0) (s := v.base) h16 (by omega) (by omega))
  · intro i bl rec hi hb16
    have hx : v.log.drop i = v.log[i] :: v.log.drop (i + 1) := List.drop_eq_getElem_cons hi
    have hd := do_ok (v := 0) (n := n) hN hb16 (all_get hg hi)
    refine .inl ⟨doN v.log[i] bl v.log[i].long.toNat, by rw [doN_len]; exact hb16, ?_, by rw [hx]; rfl⟩
    unfold P_impl_Volume_blocks.l0
    simp only [u4_list, bd_some, qBin_lss, qB_bool, Int.ofNat_lt, hi, decide_true, cond_true, qIA_map _ (show shRec.length = 4 from rfl) hi, qLd_rp, Rec.get, Option.map_some, b2_some]
    unfold Rec.enc at hd ⊢
    simp only [a4_agg, hd, c0_some, qBin_add, bd_some]
    rw [wrapI (n := (i : Int) + 1) (by constructor <;> omega)]
    rfl
  · intro bl rec _
    unfold P_impl_Volume_blocks.l0
    simp [foldR]
theorem l6In_ok {N n : Nat} (hN : 4294967296 ≤ N) (v : Vol) (h16 : v.base.length = 16) (h40 : v.log.length ≤ 40) (hg : v.log.all good = true) :
    run1 S_spec_l6In (qfn P N (n + 2) n_spec_l6In) [v.enc] = some ([.sl [.sc] ((foldR v.log v.base).map DV.str)], []) := by
  refine run1_of rfl rfl rfl (r := [oB 16]) (ν := [tB 16 (foldR v.log v.base)]) ?_ (res_oB 16 (by rw [foldR_len]; exact h16))
  rw [spec_l6In_eq]
  unfold P_spec_l6In Vol.enc
  have hb : qBS [] false [.sc] false [.str ⟨#[]⟩] 1 0 [] = some (.e0 1, []) := rfl
  have ha := qAp_txt (l := v.base) (by omega) (by omega)
  rw [h16] at ha
  simp only [a4_agg, hb, ha, b2_some, qLen_sl, List.length_map, bd_some, List.length_nil]
  refine (loop_acc (F := P_spec_l6In.l0 N (qfn P N (n + 1)) 0) (N := N) (σ := List ByteArray) (len := v.log.length) (fun i _ => ([oB 16, .sl shRec (v.log.map Rec.enc), .int .i64 (v.log.length : Nat), .int .i64 (i : Nat)] : List DV)) (fun _ bl => [tB 16 bl]) (fun _ bl => bl.length = 16) (fun i bl => some ([oB 16], [tB 16 (foldR (v.log.drop i) bl)]))
    ?_ ?_ v.log.length (i := 0) (s := v.base) h16 (by omega) (by omega))
  · intro i bl rec hi hb16
    have hx : v.log.drop i = v.log[i] :: v.log.drop (i + 1) := List.drop_eq_getElem_cons hi
    have hd := l3Do_ok (v := 16) (n := n) hN hb16 (all_get hg hi)
    refine .inl ⟨doN v.log[i] bl v.log[i].long.toNat, by rw [doN_len]; exact hb16, ?_, by rw [hx]; rfl⟩
    unfold P_spec_l6In.l0
    simp only [u4_list, bd_some, qBin_lss, qB_bool, Int.ofNat_lt, hi, decide_true, cond_true, qIA_map _ (show shRec.length = 4 from rfl) hi, qLd_rp, Rec.get, Option.map_some, b2_some]
    unfold Rec.enc at hd ⊢
    simp only [a4_agg, hd, c0_some, qBin_add, bd_some]
    rw [wrapI (n := (i : Int) + 1) (by constructor <;> omega)]
    rfl
  · intro bl rec _
    unfold P_spec_l6In.l0
    simp [foldR]
def outV (v : Vol) : List ByteArray × Bool := if goodV v = true then (foldR v.log v.base, true) else ([], false)
theorem outV_len (v : Vol) : (outV v).1.length ≤ 16 := by
  unfold outV
  split
  · rename_i h; rw [foldR_len, (goodV_get h).1]; exact Nat.le_refl _
  · decide
theorem res_ob (bl : List ByteArray) (h16 : bl.length = 16) (b : Bool) : resO [[.sl [.sc]], [.sc]] [oB 0, .bool b] [tB 0 bl] = some ([.sl [.sc] (bl.map DV.str), .bool b], kl [tB 0 bl] 0) := by
  have hb : bk [tB 0 bl] 0 0 = some (tB 0 bl) := rfl
  have t1 := tk_own (s := .sl [.sc]) (x := false) (c := 16) hb rfl rfl (own_all (b := tB 0 bl) (l := bl.map DV.str) (n := 16) rfl (by simp [h16])) (txt_cl bl)
  simp only [resO, onS, List.headD_cons, t1, Option.bind_some]
  rfl
theorem blocksI {N n : Nat} (hN : 4294967296 ≤ N) (v : Vol) (h1 : v.base.length ≤ 1048576) (h2 : v.log.length ≤ 1048576) :
    run1 S_impl_BlocksIn (qfn P N (n + 8) n_impl_BlocksIn) [v.enc] = some ([.sl [.sc] ((outV v).1.map DV.str), .bool (outV v).2], []) := by
  have hgd := goodVI (n := n) hN v h1 h2 []
  by_cases hg : goodV v = true
  · obtain ⟨h16, h40, hgl⟩ := goodV_get hg
    have ho : outV v = (foldR v.log v.base, true) := by unfold outV; rw [if_pos hg]
    rw [ho]
    have h16' : (foldR v.log v.base).length = 16 := by rw [foldR_len]; exact h16
    have hbl := cq_sn (μ := []) (s := S_impl_Volume_blocks) (args := [v.enc]) (args' := [v.enc]) rfl (by simp only [sns, S_impl_Volume_blocks, sn_cl _ _ (Vol.cl v), Option.bind_some]) (blocks_ok (n := n + 5) hN v h16 h40 hgl) rfl
    rw [adL_sl] at hbl
    simp only [List.length_map, h16', List.length_nil, List.nil_append] at hbl
    refine run1_of rfl rfl rfl (r := [oB 0, .bool true]) (ν := [tB 0 (foldR v.log v.base)]) ?_ (res_ob _ h16' true)
    rw [impl_BlocksIn_eq]
    unfold P_impl_BlocksIn
    unfold Vol.enc at hgd hbl ⊢
    simp only [a4_agg, hgd, c1_some, u1_list, qUn_not, bd_some, qB_bool, hg, Bool.not_true, cond_false, hbl]
    rfl
  · have ho : outV v = ([], false) := by unfold outV; rw [if_neg hg]
    rw [ho]
    refine run1_of rfl rfl rfl (r := [.nil, .bool false]) (ν := []) ?_ rfl
    rw [impl_BlocksIn_eq]
    unfold P_impl_BlocksIn
    unfold Vol.enc at hgd ⊢
    simp only [a4_agg, hgd, c1_some, u1_list, qUn_not, bd_some, qB_bool, hg, Bool.not_false, cond_true]
theorem blocksS {N n : Nat} (hN : 4294967296 ≤ N) (v : Vol) (h1 : v.base.length ≤ 1048576) (h2 : v.log.length ≤ 1048576) :
    run1 S_spec_BlocksIn (qfn P N (n + 8) n_spec_BlocksIn) [v.enc] = some ([.sl [.sc] ((outV v).1.map DV.str), .bool (outV v).2], []) := by
  have hgd := goodVS (n := n) hN v h1 h2 []
  by_cases hg : goodV v = true
  · obtain ⟨h16, h40, hgl⟩ := goodV_get hg
    have ho : outV v = (foldR v.log v.base, true) := by unfold outV; rw [if_pos hg]
    rw [ho]
    have h16' : (foldR v.log v.base).length = 16 := by rw [foldR_len]; exact h16
    have hbl := cq_sn (μ := []) (s := S_spec_l6In) (args := [v.enc]) (args' := [v.enc]) rfl (by simp only [sns, S_spec_l6In, sn_cl _ _ (Vol.cl v), Option.bind_some]) (l6In_ok (n := n + 5) hN v h16 h40 hgl) rfl
    rw [adL_sl] at hbl
    simp only [List.length_map, h16', List.length_nil, List.nil_append] at hbl
    refine run1_of rfl rfl rfl (r := [oB 0, .bool true]) (ν := [tB 0 (foldR v.log v.base)]) ?_ (res_ob _ h16' true)
    rw [spec_BlocksIn_eq]
    unfold P_spec_BlocksIn
    unfold Vol.enc at hgd hbl ⊢
    simp only [a4_agg, hgd, c1_some, u1_list, qUn_not, bd_some, qB_bool, hg, Bool.not_true, cond_false, hbl]
    rfl
  · have ho : outV v = ([], false) := by unfold outV; rw [if_neg hg]
    rw [ho]
    refine run1_of rfl rfl rfl (r := [.nil, .bool false]) (ν := []) ?_ rfl
    rw [spec_BlocksIn_eq]
    unfold P_spec_BlocksIn
    unfold Vol.enc at hgd ⊢
    simp only [a4_agg, hgd, c1_some, u1_list, qUn_not, bd_some, qB_bool, hg, Bool.not_false, cond_true]
end Go.Lg.Pv.Q
namespace Go.Lg.Pv.Q
open Go Go.Lg Go.Lg.Pv
set_option linter.unusedVariables false
set_option linter.unusedSimpArgs false
set_option maxRecDepth 100000

structure VOp where
  kind : Int
  loc : Int
  long : Int
  data : ByteArray
  keep : Int
def VOp.enc (r : VOp) : DV := .agg [.int .i64 r.kind, .int .i64 r.loc, .int .i64 r.long, .str r.data, .int .i64 r.keep]
abbrev shVOp : List Sh := [.sc, .sc, .sc, .sc, .sc]
def VOp.ok (r : VOp) : Prop := inI r.kind ∧ inI r.loc ∧ inI r.long ∧ (r.data.size : Int) ≤ 9223372036854775807 ∧ inI r.keep
theorem VOp.get (r : VOp) : getC (cellsD r.enc) 0 5 true = some r.enc := rfl
theorem VOp.cl (r : VOp) : cl r.enc = true := rfl
theorem vOps_cl (l : List VOp) : Pv.cl (.sl shVOp (l.map VOp.enc)) = true := by simp only [Pv.cl]; exact clL_map VOp.cl l
theorem VOp.ext_iff' (a b : VOp) : (a = b) ↔ a.kind = b.kind ∧ a.loc = b.loc ∧ a.long = b.long ∧ a.data = b.data ∧ a.keep = b.keep := by cases a; cases b; simp
instance : DecidableEq VOp := fun a b => decidable_of_iff _ (VOp.ext_iff' a b).symm
def vOp0 : VOp := ⟨0, 0, 0, ⟨#[]⟩, 0⟩
/-- the block of a slice -/
def vOpB (l : List VOp) : PB := ⟨0, shVOp, l.map VOp.enc, true, false, true⟩
theorem VOp.ok_s {r : VOp} (h : r.ok) : (r.data.size : Int) ≤ 9223372036854775807 := h.2.2.2.1
def szVOp (r : VOp) (left : Int) : Int := if left - r.data.size < 0 then -1 else left - r.data.size
def szVOps : List VOp → Int → Int
  | [], left => left
  | r :: l, left => if szVOp r left < 0 then -1 else szVOps l (szVOp r left)
theorem szVOp_le {r : VOp} {left : Int} (h : ¬ szVOp r left < 0) : 0 ≤ szVOp r left ∧ szVOp r left + r.data.size = left := by
  unfold szVOp at h ⊢; split <;> rename_i h'
  · rw [if_pos h'] at h; exact absurd (by decide) h
  · omega
theorem szVOps_le : ∀ {l : List VOp} {left : Int}, ¬ szVOps l left < 0 → ∀ r ∈ l, (r.data.size : Int) ≤ left
  | r :: l, left, h, x, hx => by
    simp only [szVOps] at h
    split at h <;> rename_i h'
    · exact absurd (by decide) h
    · have := szVOp_le h'
      rcases List.mem_cons.1 hx with rfl | hx
      · omega
      · have := szVOps_le h x hx; omega
def szVOpS (l : List VOp) (left : Int) : Int := if left - l.length < 0 then -1 else szVOps l (left - l.length)
theorem szVOpS_le {l : List VOp} {left : Int} (h : ¬ szVOpS l left < 0) : (l.length : Int) ≤ left := by
  unfold szVOpS at h; split at h <;> rename_i h'
  · exact absurd (by decide) h
  · omega
theorem szVolOp_ok {N n : Nat} (r : VOp) (left : Int) (h0 : 0 ≤ left) (h1 : left ≤ 1048576) (hr : r.ok) :
    run1 S_laws_szVolOp (qfn P N (n + 1) n_laws_szVolOp) [r.enc, .int .i64 left] = some ([.int .i64 (szVOp r left)], []) := by
  have hr := VOp.ok_s hr
  refine run1_of (ν := []) rfl rfl rfl (r := [.int .i64 (szVOp r left)]) ?_ (resO_sc rfl)
  rw [laws_szVolOp_eq]
  unfold P_laws_szVolOp VOp.enc szVOp
  simp
  rw [wrapI (n := left - (r.data.size : Nat)) (by constructor <;> omega)]
  split <;> rfl
theorem szVolOpS_ok {N n : Nat} (hN : 4294967296 ≤ N) (l : List VOp) (left : Int) (h0 : 0 ≤ left) (h1 : left ≤ 1048576) (hl : ∀ r ∈ l, r.ok) (hlen : (l.length : Int) ≤ 9223372036854775807) :
    run1 S_laws_szVolOpS (qfn P N (n + 2) n_laws_szVolOpS) [.sl shVOp (l.map VOp.enc), .int .i64 left] = some ([.int .i64 (szVOpS l left)], []) := by
  unfold szVOpS
  refine run1_of (ν := []) rfl rfl rfl (r := [.int .i64 (if left - l.length < 0 then -1 else szVOps l (left - l.length))]) ?_ (resO_sc rfl)
  rw [laws_szVolOpS_eq]
  unfold P_laws_szVolOpS
  simp
  rw [wrapI (n := left - (l.length : Nat)) (by constructor <;> omega)]
  split <;> rename_i hlt
  · rfl
  refine (loop_acc (σ := Int) (len := l.length) (fun i left => ([.sl shVOp (l.map VOp.enc), .int .i64 left, .int .i64 (i : Nat)] : List DV)) (fun _ _ => []) (fun _ left => 0 ≤ left ∧ left ≤ 1048576) (fun i left => some ([DV.int .i64 (szVOps (l.drop i) left)], []))
    ?_ ?_ l.length (i := 0) (s := left - l.length) ⟨by omega, by omega⟩ (by omega) (by omega)).trans (by simp)
  · intro i left rec hi ⟨g0, g1⟩
    have hx : l.drop i = l[i] :: l.drop (i + 1) := List.drop_eq_getElem_cons hi
    unfold P_laws_szVolOpS.l0
    rw [hx]
    simp only [u3_list, qLen_sl, List.length_map, bd_some, qBin_lss, qB_bool, Int.ofNat_lt, hi, decide_true, cond_true, qIA_map _ (show shVOp.length = 5 from rfl) hi, qLd_rp, VOp.get]
    simp only [Option.map_some, b2_some]
    rw [cq_sn (args' := [l[i].enc, .int .i64 left]) rfl (by simp [sns, S_laws_szVolOp, sn_cl _ _ (VOp.cl _), sn_cl _ _ (show cl (.int .i64 left) = true from rfl)]) (szVolOp_ok l[i] left g0 g1 (hl _ (List.getElem_mem hi))) rfl]
    rw [adL_sc rfl]
    simp only [c1_some, bd_some, qBin_lss, qB_bool]
    by_cases hs : szVOp l[i] left < 0
    · refine .inr ?_
      simp [szVOps, hs]
    · refine .inl ⟨szVOp l[i] left, ?_, ?_, ?_⟩
      · have := szVOp_le hs; omega
      · have hb : (l.length : Int) ≤ 1048576 := by omega
        simp only [u1_list, bd_some, qBin_lss, qB_bool, hs, decide_false, cond_false, qBin_add]
        rw [wrapI (n := (i : Int) + 1) (by constructor <;> omega)]
        rfl
      · simp [szVOps, hs]
  · intro left rec _
    unfold P_laws_szVolOpS.l0
    simp [szVOps]
theorem toVolOp_ok {N n : Nat} (r : VOp) : run1 S_laws_toVolOp (qfn P N (n + 1) n_laws_toVolOp) [r.enc] = some ([r.enc], []) := by
  refine run1_of (ν := []) rfl rfl rfl (r := [r.enc]) ?_ (resO_agg rfl)
  rw [laws_toVolOp_eq]
  unfold P_laws_toVolOp VOp.enc
  simp
def cpVOp (l : List VOp) (i : Nat) : PB := ⟨0, shVOp, (pre l vOp0 i).map VOp.enc, true, false, true⟩
theorem adL_vOp (μ : PH) (r : VOp) : adL true μ [r.enc] = ([r.enc], μ) := adL_agg rfl
theorem toVolOpS_ok {N n : Nat} (hN : 4294967296 ≤ N) (l : List VOp) (hlen : l.length ≤ 1048576) :
    run1 S_laws_toVolOpS (qfn P N (n + 2) n_laws_toVolOpS) [.sl shVOp (l.map VOp.enc)] = some ([.sl shVOp (l.map VOp.enc)], []) := by
  refine run1_of (ν := [cpVOp l l.length]) (ν' := kl [cpVOp l l.length] 0) rfl rfl rfl (r := [.own 0 0 0 l.length l.length true]) ?_ ?_
  · rw [laws_toVolOpS_eq]
    unfold P_laws_toVolOpS
    have h1 : (l.length : Int) * 48 ≤ 140737488355328 := by omega
    have h2 : (l.length : Int) ≤ 9223372036854775807 := by omega
    have hms : qMS [] [.sc, .sc, .sc, .sc, .sc] true [.int .i64 0, .int .i64 0, .int .i64 0, .str ⟨#[]⟩, .int .i64 0] 5 48 (.int .i64 l.length) (.int .i64 l.length) = some (.own 0 0 0 l.length l.length true, [cpVOp l 0]) := by
      simp [qMS, h1, h2, cpVOp, pre_zero, okC, isSc]
      exact .inr rfl
    simp only [qLen_sl, bd_some, List.length_map, hms, b2_some]
    refine (loop_acc (σ := Unit) (len := l.length) (fun i _ => ([.sl shVOp (l.map VOp.enc), .own 0 0 0 l.length l.length true, .int .i64 (i : Nat)] : List DV)) (fun i _ => [cpVOp l i]) (fun _ _ => True) (fun i _ => some ([DV.own 0 0 0 l.length l.length true], [cpVOp l l.length]))
      ?_ ?_ l.length (i := 0) (s := ()) trivial (by omega) (by omega))
    · intro i _ rec hi _
      refine .inl ⟨(), trivial, ?_, rfl⟩
      unfold P_laws_toVolOpS.l0
      simp only [u3_list, qLen_sl, List.length_map, bd_some, qBin_lss, qB_bool, Int.ofNat_lt, hi, decide_true, cond_true, qIA_map _ (show shVOp.length = 5 from rfl) hi, qLd_rp, VOp.get]
      simp only [Option.map_some, b2_some]
      rw [cq_sn (args' := [l[i].enc]) rfl (by simp [sns, S_laws_toVolOp, sn_cl _ _ (VOp.cl _)]) (toVolOp_ok l[i]) rfl, adL_vOp]
      have hb : bk [cpVOp l i] 0 0 = some (cpVOp l i) := rfl
      have hg : (cpVOp l i).el[i]? = some ((pre l vOp0 i)[i]'(by rw [pre_len _ _ _ (by omega)]; exact hi)).enc := by simp [cpVOp, pre_len _ _ _ (Nat.le_of_lt hi), hi]
      simp only [u1_list, c1_some, qIA_own (size := 5) hb rfl hi (show (cpVOp l i).sh.length = 5 from rfl), bd_some, Nat.zero_add]
      rw [qSt_ptr (size := 5) (cs := [.int .i64 l[i].kind, .int .i64 l[i].loc, .int .i64 l[i].long, .str l[i].data, .int .i64 l[i].keep]) hb hg rfl (Nat.le_refl 5) rfl]
      simp only [bd_some, qBin_add]
      rw [wrapI (n := (i : Int) + 1) (by constructor <;> omega)]
      have : ([cpVOp l i].set 0 { cpVOp l i with el := (cpVOp l i).el.set i l[i].enc }) = [cpVOp l (i + 1)] := by
        simp [cpVOp, ← pre_set l vOp0 i hi, List.map_set]
      exact congrArg (rec _) this
    · intro _ rec _
      unfold P_laws_toVolOpS.l0
      simp
  · have hb : bk [cpVOp l l.length] 0 0 = some (cpVOp l l.length) := rfl
    have he : ((cpVOp l l.length).el.drop 0).take l.length = l.map VOp.enc := by simp only [cpVOp, pre_last, List.drop_zero]; exact List.take_of_length_le (by simp)
    have hc : clL (l.map VOp.enc) = true := clL_map VOp.cl l
    simp only [resO, S_laws_toVolOpS, onS, tk_own hb rfl rfl he hc, Option.bind_some]
    rfl
theorem cq_toVOp {N n : Nat} (hN : 4294967296 ≤ N) (l : List VOp) (hlen : l.length ≤ 1048576) (μ : PH) : cq S_laws_toVolOpS (qfn P N (n + 2) n_laws_toVolOpS) [.sl shVOp (l.map VOp.enc)] μ = some ([.own μ.length 0 0 l.length l.length false], μ ++ [vOpB l]) := by
  rw [cq_sn (args' := [.sl shVOp (l.map VOp.enc)]) rfl (by simp only [sns, S_laws_toVolOpS, sn_cl _ _ (vOps_cl l), Option.bind_some]) (toVolOpS_ok hN l hlen) rfl, adL_sl]
  simp only [List.length_map]; rfl
theorem eqVolOp_ok {N n : Nat} (a b : VOp) : run1 S_laws_eqVolOp (qfn P N (n + 1) n_laws_eqVolOp) [a.enc, b.enc] = some ([.bool (decide (a = b))], []) := by
  refine run1_of (ν := []) rfl rfl rfl (r := [.bool (decide (a = b))]) ?_ (resO_sc rfl)
  rw [laws_eqVolOp_eq]
  unfold P_laws_eqVolOp VOp.enc
  by_cases h0 : a.kind = b.kind <;> by_cases h1 : a.loc = b.loc <;> by_cases h2 : a.long = b.long <;> by_cases h3 : a.data = b.data <;> by_cases h4 : a.keep = b.keep <;> simp [VOp.ext_iff', h0, h1, h2, h3, h4]
theorem eqVolOpS_ok {N n : Nat} (hN : 4294967296 ≤ N) (a b : List VOp) (ha : a.length ≤ 1048576) (hb : b.length ≤ 1048576) :
    run1 S_laws_eqVolOpS (qfn P N (n + 2) n_laws_eqVolOpS) [.sl shVOp (a.map VOp.enc), .sl shVOp (b.map VOp.enc)] = some ([.bool (decide (a = b))], []) := by
  refine run1_of (ν := []) rfl rfl rfl (r := [.bool (decide (a = b))]) ?_ (resO_sc rfl)
  rw [laws_eqVolOpS_eq]
  unfold P_laws_eqVolOpS
  simp
  by_cases hl : ¬ a.length = b.length
  · have : a ≠ b := fun h => hl (by rw [h])
    simp [this, show ¬ ((a.length : Int) = b.length) by omega]
  have hl := Decidable.of_not_not hl
  simp [hl]
  refine (loop_acc (σ := Unit) (len := a.length) (fun i _ => ([.sl shVOp (a.map VOp.enc), .sl shVOp (b.map VOp.enc), .int .i64 (i : Nat)] : List DV)) (fun _ _ => []) (fun _ _ => True) (fun i _ => some ([DV.bool (decide (a.drop i = b.drop i))], []))
    ?_ ?_ a.length (i := 0) (s := ()) trivial (by omega) (by omega)).trans (by simp)
  · intro i _ rec hi _
    have hi' : i < b.length := by omega
    have hx := drop_eq hi hi'
    unfold P_laws_eqVolOpS.l0
    simp only [u3_list, qLen_sl, List.length_map, bd_some, qBin_lss, qB_bool, Int.ofNat_lt, hi, decide_true, cond_true, qIA_map _ (show shVOp.length = 5 from rfl) hi, qIA_map _ (show shVOp.length = 5 from rfl) hi', qLd_rp, VOp.get, Option.map_some, b2_some]
    rw [cq_sn (args' := [a[i].enc, b[i].enc]) rfl (by simp [sns, S_laws_eqVolOp, sn_cl _ _ (VOp.cl _)]) (eqVolOp_ok a[i] b[i]) rfl, adL_sc rfl]
    by_cases hs : a[i] = b[i]
    · refine .inl ⟨(), trivial, ?_, ?_⟩
      · simp [hx, hs]
        rw [wrapI (n := (i : Int) + 1) (by constructor <;> omega)]
      · simp [hx, hs]
    · refine .inr ?_
      simp [hx, hs]
  · intro _ rec _
    unfold P_laws_eqVolOpS.l0
    simp [hl]
theorem snVOp {μ : PH} {i m : Nat} {b : PB} {s : List Sh} {l : List VOp} (hi : bk μ i 0 = some b) (hs : b.sh = shVOp) (he : b.el = l.map VOp.enc) (hm : m = l.length) : sn μ s (.own i 0 0 m m false) = some (.sl shVOp (l.map VOp.enc)) := by
  have ha : (b.el.drop 0).take m = l.map VOp.enc := by subst hm; rw [he, List.drop_zero]; exact List.take_of_length_le (by simp)
  rw [← hs]; exact sn_own hi ha (clL_map VOp.cl l)
theorem cq_eqVOp {N n : Nat} (hN : 4294967296 ≤ N) (l : List VOp) (hlen : l.length ≤ 1048576) {μ : PH} {i j : Nat} (hi : bk μ i 0 = some (vOpB l)) (hj : bk μ j 0 = some (vOpB l)) :
    cq S_laws_eqVolOpS (qfn P N (n + 2) n_laws_eqVolOpS) [.own i 0 0 l.length l.length false, .own j 0 0 l.length l.length false] μ = some ([.bool true], μ) := by
  rw [cq_sn (args' := [.sl shVOp (l.map VOp.enc), .sl shVOp (l.map VOp.enc)]) rfl (by simp only [sns, S_laws_eqVolOpS, snVOp hi rfl rfl rfl, snVOp hj rfl rfl rfl, Option.bind_some]) (eqVolOpS_ok (n := n) hN l l hlen hlen) rfl, adL_sc rfl]
  simp
def markVOp (k : Int) : VOp := ⟨k, k + 1, k + 2, mark (k + 3), k + 4⟩
def marksVOp (k : Int) (n : Nat) : List VOp := (List.range n).map fun i => markVOp (k + 5 * (i : Nat))
theorem marksVOp_len (k : Int) (n : Nat) : (marksVOp k n).length = n := by simp [marksVOp]
theorem marksVOp_get (k : Int) (n i : Nat) (h : i < (marksVOp k n).length) : (marksVOp k n)[i] = markVOp (k + 5 * (i : Nat)) := by simp [marksVOp]
theorem markVolOpS_ok {N n : Nat} (hN : 4294967296 ≤ N) {μ : PH} {id ver c : Nat} {x : Bool} {b : PB} {xs : List VOp} {k : Int} (hb : bk μ id ver = some b) (hel : b.el = xs.map VOp.enc) (hsh : b.sh = shVOp) (hop : b.op = false)
    (hn : xs.length ≤ 1048576) (h0 : 0 < k) (h1 : k ≤ 100000000) :
    qfn P N (n + 2) n_laws_markVolOpS [.own id ver 0 xs.length c x, .int .i64 k] μ = some ([.int .i64 (k + 5 * xs.length)], μ.set id { b with el := (marksVOp k xs.length).map VOp.enc }) := by
  rw [laws_markVolOpS_eq]
  unfold P_laws_markVolOpS
  have hm0 : μ = μ.set id { b with el := (mix (marksVOp k xs.length) xs 0).map VOp.enc } := by
    rw [mix_zero, ← hel]; exact (bk_self hb).symm
  have hml := marksVOp_len k xs.length
  conv => lhs; rw [hm0]
  refine Eq.trans (by simp) (loop_acc (F := P_laws_markVolOpS.l0 N (qfn P N (n + 1)) μ.length) (N := N) (σ := Unit) (len := xs.length) (fun i _ => ([.own id ver 0 xs.length c x, .int .i64 (k + 5 * (i : Nat)), .int .i64 (i : Nat)] : List DV)) (fun i _ => μ.set id { b with el := (mix (marksVOp k xs.length) xs i).map VOp.enc })
    (fun _ _ => True) (fun i _ => some ([DV.int .i64 (k + 5 * xs.length)], μ.set id { b with el := (marksVOp k xs.length).map VOp.enc })) ?_ ?_ xs.length (i := 0) (s := ()) trivial (by omega) (by omega))
  · intro i _ rec hi _
    refine .inl ⟨(), trivial, ?_, rfl⟩
    have hi' : i < (marksVOp k xs.length).length := by omega
    have hLl : i < ((mix (marksVOp k xs.length) xs i).map VOp.enc).length := by rw [List.length_map, mix_len hml]; exact hi
    have hL : (mix (marksVOp k xs.length) xs i).map VOp.enc = ((mix (marksVOp k xs.length) xs i).map VOp.enc).set i (.agg [.int .i64 xs[i].kind, .int .i64 xs[i].loc, .int .i64 xs[i].long, .str xs[i].data, .int .i64 xs[i].keep]) := by
      apply List.ext_getElem?
      intro j
      rw [List.getElem?_set]
      split
      · subst_vars; rw [List.getElem?_map, mix_get hml hi']; rfl
      · rfl
    unfold P_laws_markVolOpS.l0
    generalize hLg : (mix (marksVOp k xs.length) xs i).map VOp.enc = L at hL hLl ⊢
    have hbk := bk_el hb L
    have hq : ∀ E : List DV, qIA (μ.set id { b with el := E }) 5 (.own id ver 0 xs.length c x) (.int .i64 (i : Nat)) = some (.ptr id ver i 0) := fun E => by
      rw [qIA_own (size := 5) (bk_el hb E) rfl hi (by show b.sh.length = 5; rw [hsh]; rfl), Nat.zero_add]
    simp only [u3_list, qLen_own hbk, bd_some, qBin_lss, qB_bool, Int.ofNat_lt, hi, decide_true, cond_true]
    rw [hL]
    try simp only [hq, bd_some, qFA_ptr _ (bk_el hb _), Nat.zero_add]
    rw [st_at hb hop hLl (by simp) rfl rfl]
    simp only [bd_some, qBin_add, hq, qFA_ptr _ (bk_el hb _), Nat.zero_add]
    rw [wrapI (n := k + 5 * (i : Nat) + 1) (by constructor <;> omega)]
    try simp only [hq, bd_some, qFA_ptr _ (bk_el hb _), Nat.zero_add]
    rw [st_at hb hop hLl (by simp) rfl rfl]
    simp only [bd_some, qBin_add, hq, qFA_ptr _ (bk_el hb _), Nat.zero_add]
    rw [wrapI (n := k + 5 * (i : Nat) + 1 + 1) (by constructor <;> omega)]
    try simp only [hq, bd_some, qFA_ptr _ (bk_el hb _), Nat.zero_add]
    rw [st_at hb hop hLl (by simp) rfl rfl]
    simp only [bd_some, qBin_add, hq, qFA_ptr _ (bk_el hb _), Nat.zero_add]
    rw [wrapI (n := k + 5 * (i : Nat) + 1 + 1 + 1) (by constructor <;> omega)]
    simp only [cq_mark hN _ (k + 5 * (i : Nat) + 1 + 1 + 1) (by omega) (by omega), c1_some, u1_list, hq, bd_some, qFA_ptr _ (bk_el hb _), Nat.zero_add]
    rw [st_at hb hop hLl (by simp) rfl rfl]
    simp only [bd_some, qBin_add, hq, qFA_ptr _ (bk_el hb _), Nat.zero_add]
    rw [wrapI (n := k + 5 * (i : Nat) + 1 + 1 + 1 + 1) (by constructor <;> omega)]
    try simp only [hq, bd_some, qFA_ptr _ (bk_el hb _), Nat.zero_add]
    rw [st_at hb hop hLl (by simp) rfl rfl]
    simp only [bd_some, qBin_add, hq, qFA_ptr _ (bk_el hb _), Nat.zero_add]
    rw [wrapI (n := k + 5 * (i : Nat) + 1 + 1 + 1 + 1 + 1) (by constructor <;> omega)]
    rw [wrapI (n := (i : Int) + 1) (by constructor <;> omega)]
    rw [← mix_set hml hi', List.map_set, marksVOp_get, hLg]
    rw [show k + 5 * (i : Nat) + 1 + 1 + 1 + 1 + 1 = k + 5 * ((i + 1 : Nat) : Int) by omega, show k + 5 * (i : Nat) + 1 + 1 + 1 + 1 = k + 5 * (i : Nat) + 4 by omega, show k + 5 * (i : Nat) + 1 + 1 + 1 = k + 5 * (i : Nat) + 3 by omega, show k + 5 * (i : Nat) + 1 + 1 = k + 5 * (i : Nat) + 2 by omega]
    rfl
  · intro _ rec _
    have hbk := bk_el hb ((mix (marksVOp k xs.length) xs xs.length).map VOp.enc)
    have hlast : mix (marksVOp k xs.length) xs xs.length = marksVOp k xs.length := by
      conv => lhs; arg 3; rw [← hml]
      exact mix_last hml
    unfold P_laws_markVolOpS.l0
    simp [qLen_own hbk]
    rw [hlast]
end Go.Lg.Pv.Q
namespace Go.Lg.Pv.Q
open Go Go.Lg Go.Lg.Pv
set_option linter.unusedVariables false
set_option linter.unusedSimpArgs false
set_option maxRecDepth 100000

theorem heldRecordS_ok {N n : Nat} (hN : 4294967296 ≤ N) (m : Nat) (k : Int) (hn : m ≤ 1048576) (h0 : 0 < k) (h1 : k ≤ 100000000) :
    run1 S_laws_heldRecordS (qfn P N (n + 2) n_laws_heldRecordS) [.sl shRec ((marksR k m).map Rec.enc), .int .i64 k] = some ([.int .i64 (k + 4 * m)], []) := by
  refine run1_of (ν := []) rfl rfl rfl (r := [.int .i64 (k + 4 * m)]) ?_ (resO_sc rfl)
  rw [laws_heldRecordS_eq]
  unfold P_laws_heldRecordS
  have hml := marksR_len k m
  refine Eq.trans (by simp) (loop_acc (F := P_laws_heldRecordS.l0 N (qfn P N (n + 1)) 0) (N := N) (σ := Unit) (len := m) (fun i _ => ([.sl shRec ((marksR k m).map Rec.enc), .int .i64 (k + 4 * (i : Nat)), .int .i64 (i : Nat)] : List DV)) (fun _ _ => [])
    (fun _ _ => True) (fun i _ => some ([DV.int .i64 (k + 4 * m)], [])) ?_ ?_ m (i := 0) (s := ()) trivial (by omega) (by omega))
  · intro i _ rec hi _
    refine .inl ⟨(), trivial, ?_, rfl⟩
    have hi' : i < (marksR k m).length := by omega
    unfold P_laws_heldRecordS.l0
    have hE : (marksR k m)[i].enc = .agg [.int .i64 (k + 4 * (i : Nat)), .int .i64 (k + 4 * (i : Nat) + 1), .int .i64 (k + 4 * (i : Nat) + 1 + 1), .str (mark (k + 4 * (i : Nat) + 1 + 1 + 1))] := by
      rw [marksR_get]; unfold markR Rec.enc
      rw [show k + 4 * ((i : Nat) : Int) + 3 = k + 4 * (i : Nat) + 1 + 1 + 1 by omega, show k + 4 * ((i : Nat) : Int) + 2 = k + 4 * (i : Nat) + 1 + 1 by omega]
    simp only [u3_list, qLen_sl, List.length_map, hml, bd_some, qBin_lss, qB_bool, Int.ofNat_lt, hi, decide_true, cond_true]
    try simp only [qFA_rp, qLd_rp, Nat.zero_add, cellsD_agg, getC_one, List.getElem?_cons_zero, List.getElem?_cons_succ, Option.map_some, b2_some, qBin_neq, qBin_sneq, qBin_bne, qBin_eql, ne_eq, not_true_eq_false, decide_false, cond_false, bne_self_eq_false, qBin_add, bd_some, qB_bool, qIA_map _ (show shRec.length = 4 from rfl) hi', hE, stand_rp, c1_some, u1_list]
    rw [wrapI (n := k + 4 * (i : Nat) + 1) (by constructor <;> omega)]
    try simp only [qFA_rp, qLd_rp, Nat.zero_add, cellsD_agg, getC_one, List.getElem?_cons_zero, List.getElem?_cons_succ, Option.map_some, b2_some, qBin_neq, qBin_sneq, qBin_bne, qBin_eql, ne_eq, not_true_eq_false, decide_false, cond_false, bne_self_eq_false, qBin_add, bd_some, qB_bool, qIA_map _ (show shRec.length = 4 from rfl) hi', hE, stand_rp, c1_some, u1_list]
    rw [wrapI (n := k + 4 * (i : Nat) + 1 + 1) (by constructor <;> omega)]
    try simp only [qFA_rp, qLd_rp, Nat.zero_add, cellsD_agg, getC_one, List.getElem?_cons_zero, List.getElem?_cons_succ, Option.map_some, b2_some, qBin_neq, qBin_sneq, qBin_bne, qBin_eql, ne_eq, not_true_eq_false, decide_false, cond_false, bne_self_eq_false, qBin_add, bd_some, qB_bool, qIA_map _ (show shRec.length = 4 from rfl) hi', hE, stand_rp, c1_some, u1_list]
    rw [wrapI (n := k + 4 * (i : Nat) + 1 + 1 + 1) (by constructor <;> omega)]
    simp only [cq_mark hN _ (k + 4 * (i : Nat) + 1 + 1 + 1) (by omega) (by omega), qFA_rp, qLd_rp, Nat.zero_add, cellsD_agg, getC_one, List.getElem?_cons_zero, List.getElem?_cons_succ, Option.map_some, b2_some, qBin_neq, qBin_sneq, qBin_bne, qBin_eql, ne_eq, not_true_eq_false, decide_false, cond_false, bne_self_eq_false, qBin_add, bd_some, qB_bool, qIA_map _ (show shRec.length = 4 from rfl) hi', hE, stand_rp, c1_some, u1_list]
    rw [wrapI (n := k + 4 * (i : Nat) + 1 + 1 + 1 + 1) (by constructor <;> omega)]
    try simp only [qFA_rp, qLd_rp, Nat.zero_add, cellsD_agg, getC_one, List.getElem?_cons_zero, List.getElem?_cons_succ, Option.map_some, b2_some, qBin_neq, qBin_sneq, qBin_bne, qBin_eql, ne_eq, not_true_eq_false, decide_false, cond_false, bne_self_eq_false, qBin_add, bd_some, qB_bool, qIA_map _ (show shRec.length = 4 from rfl) hi', hE, stand_rp, c1_some, u1_list]
    rw [wrapI (n := (i : Int) + 1) (by constructor <;> omega)]
    rw [show k + 4 * (i : Nat) + 1 + 1 + 1 + 1 = k + 4 * ((i + 1 : Nat) : Int) by omega]
    rfl
  · intro _ rec _
    unfold P_laws_heldRecordS.l0
    simp [hml]
theorem cq_heldRec {N n : Nat} (hN : 4294967296 ≤ N) (m : Nat) (k : Int) (hn : m ≤ 1048576) (h0 : 0 < k) (h1 : k ≤ 100000000) {μ : PH} {args : List DV} (hs : sns μ S_laws_heldRecordS.ps args = some [.sl shRec ((marksR k m).map Rec.enc), .int .i64 k]) :
    cq S_laws_heldRecordS (qfn P N (n + 2) n_laws_heldRecordS) args μ = some ([.int .i64 (k + 4 * m)], μ) := by
  rw [cq_sn rfl hs (heldRecordS_ok hN m k hn h0 h1) rfl, adL_sc rfl]
end Go.Lg.Pv.Q
namespace Go.Lg.Pv.Q
open Go Go.Lg Go.Lg.Pv
set_option linter.unusedVariables false
set_option linter.unusedSimpArgs false
set_option maxRecDepth 100000

def volOwn (i : Nat) (v : Vol) : DV := .agg [.own i 0 0 v.base.length v.base.length false, .int .i64 v.folded, .own (i + 1) 0 0 v.log.length v.log.length false, .int .i64 v.sure]
theorem snV {μ : PH} {i : Nat} {v : Vol} (hi : bk μ i 0 = some (tB 0 v.base)) (hj : bk μ (i + 1) 0 = some (rB v.log)) : sn μ shVol (volOwn i v) = some v.enc := by
  have e1 : snC μ 6 (.sl [.sc]) (.own i 0 0 v.base.length v.base.length false) = some (.sl [.sc] (v.base.map DV.str)) := snT (s := [.sl [.sc]]) hi rfl rfl rfl
  have e2 : snC μ 6 (.sl shRec) (.own (i + 1) 0 0 v.log.length v.log.length false) = some (.sl shRec (v.log.map Rec.enc)) := snR (s := [.sl shRec]) hj rfl rfl rfl
  have e3 : ∀ (s : Sh) (k : IntKind) (a : Int), snC μ 6 s (.int k a) = some (.int k a) := fun _ _ _ => rfl
  simp only [sn, onE, volOwn, zipO, List.headD_cons, List.tail_cons, e1, e2, e3, Option.bind_some, Option.map_some]
  rfl
theorem a4_vol {α : Type} (v : Vol) (k : DV → DV → DV → DV → Option α) : a4 v.enc k = k (.sl [.sc] (v.base.map DV.str)) (.int .i64 v.folded) (.sl shRec (v.log.map Rec.enc)) (.int .i64 v.sure) := rfl
theorem fold_vol (v : Vol) : DV.agg [.sl [.sc] (v.base.map DV.str), .int .i64 v.folded, .sl shRec (v.log.map Rec.enc), .int .i64 v.sure] = v.enc := rfl
theorem a4_own {α : Type} (i : Nat) (v : Vol) (k : DV → DV → DV → DV → Option α) : a4 (volOwn i v) k = k (.own i 0 0 v.base.length v.base.length false) (.int .i64 v.folded) (.own (i + 1) 0 0 v.log.length v.log.length false) (.int .i64 v.sure) := rfl
theorem fold_own (i : Nat) (v : Vol) : DV.agg [.own i 0 0 v.base.length v.base.length false, .int .i64 v.folded, .own (i + 1) 0 0 v.log.length v.log.length false, .int .i64 v.sure] = volOwn i v := rfl
section
variable {N n : Nat} (hN : 4294967296 ≤ N)
include hN
theorem Q_toV (v : Vol) (h1 : v.base.length ≤ 1048576) (h2 : v.log.length ≤ 1048576) (μ : PH) : cq S_laws_toVolume (qfn P N (n + 9) n_laws_toVolume) [v.enc] μ = some ([volOwn μ.length v], μ ++ [tB 0 v.base, rB v.log]) := by
  rw [cq_sn (args' := [v.enc]) rfl (by simp only [sns, S_laws_toVolume, sn_cl _ _ (Vol.cl v), Option.bind_some]) (toVolume_ok (n := n + 6) hN v h1 h2) rfl]
  simp [adL, adV, unfL, Vol.enc, volOwn, tB, rB]
theorem Q_eqT (O : List ByteArray) (hO : O.length ≤ 1048576) {μ : PH} {i j : Nat} (hi : bk μ i 0 = some (tB 0 O)) (hj : bk μ j 0 = some (tB 0 O)) : cq S_laws_eqStringS (qfn P N (n + 9) n_laws_eqStringS) [.own i 0 0 O.length O.length false, .own j 0 0 O.length O.length false] μ = some ([.bool true], μ) := by
  rw [cq_sn (args' := [.sl [.sc] (O.map DV.str), .sl [.sc] (O.map DV.str)]) rfl (by simp only [sns, S_laws_eqStringS, snT hi rfl rfl rfl, snT hj rfl rfl rfl, Option.bind_some]) (eqStringS_ok (n := n + 8) hN O O hO hO) rfl, adL_sc rfl]
  simp
theorem Q_eqV (v : Vol) (h1 : v.base.length ≤ 1048576) (h2 : v.log.length ≤ 1048576) {μ : PH} {i j : Nat} (hi : bk μ i 0 = some (tB 0 v.base)) (hi' : bk μ (i + 1) 0 = some (rB v.log)) (hj : bk μ j 0 = some (tB 0 v.base)) (hj' : bk μ (j + 1) 0 = some (rB v.log)) : cq S_laws_eqVolume (qfn P N (n + 9) n_laws_eqVolume) [volOwn i v, volOwn j v] μ = some ([.bool true], μ) := by
  rw [cq_sn (args' := [v.enc, v.enc]) rfl (by simp only [sns, S_laws_eqVolume, snV hi hi', snV hj hj', Option.bind_some]) (eqVolume_ok (n := n + 6) hN v v h1 h2 h1 h2) rfl, adL_sc rfl]
  simp
theorem Q_heldT (m : Nat) (hm : m ≤ 1048576) {μ : PH} {i : Nat} (hi : bk μ i 0 = some (tB 0 (marks 1 m))) : cq S_laws_heldStringS (qfn P N (n + 9) n_laws_heldStringS) [.own i 0 0 m m false, .int .i64 1] μ = some ([.int .i64 (1 + m)], μ) := by
  rw [cq_sn (args' := [.sl [.sc] ((marks 1 m).map DV.str), .int .i64 1]) rfl (by simp only [sns, S_laws_heldStringS, snT hi rfl rfl (marks_len 1 m).symm, snI, Option.bind_some]) (heldStringS_ok (n := n + 7) hN m 1 hm (by decide) (by decide)) rfl, adL_sc rfl]
theorem markV (v : Vol) (h1 : v.base.length ≤ 1048576) (h2 : v.log.length ≤ 1048576) {μ : PH} {i : Nat} (hi : bk μ i 0 = some (tB 0 v.base)) (hj : bk μ (i + 1) 0 = some (rB v.log)) :
    qfn P N (n + 9) n_laws_markVolume [volOwn i v, .int .i64 1] μ = some ([.int .i64 (1 + v.base.length + 4 * v.log.length)], (μ.set i (tB 0 (marks 1 v.base.length))).set (i + 1) (rB (marksR (1 + v.base.length) v.log.length))) := by
  rw [laws_markVolume_eq]
  unfold P_laws_markVolume volOwn
  simp only [a4_agg]
  rw [markStringS_ok (n := n + 6) hN hi rfl rfl rfl h1 (by decide) (by decide)]
  simp only [c1_some, u1_list]
  rw [markRecordS_ok (n := n + 6) hN (by rw [bk_set_ne (by omega)]; exact hj) rfl rfl rfl h2 (by omega) (by omega)]
  simp only [c1_some, u1_list]
  rfl
end
end Go.Lg.Pv.Q
namespace Go.Lg.Pv.Q
open Go Go.Lg Go.Lg.Pv
set_option linter.unusedVariables false
set_option linter.unusedSimpArgs false
set_option maxRecDepth 100000
abbrev eBool : Bool → DV := fun x => DV.bool x
theorem eBool_cl (l : List Bool) : clL (l.map eBool) = true := clL_map (fun _ => rfl) l
theorem bools_cl (l : List Bool) : cl (.sl [.sc] (l.map eBool)) = true := by simp only [Pv.cl]; exact eBool_cl l
def boolB (l : List Bool) : PB := ⟨0, [.sc], l.map eBool, true, false, true⟩
theorem snBool {μ : PH} {i m : Nat} {b : PB} {s : List Sh} {l : List Bool} (hi : bk μ i 0 = some b) (hs : b.sh = [.sc]) (he : b.el = l.map eBool) (hm : m = l.length) : sn μ s (.own i 0 0 m m false) = some (.sl [.sc] (l.map eBool)) := by
  have ha : (b.el.drop 0).take m = l.map eBool := by subst hm; rw [he, List.drop_zero]; exact List.take_of_length_le (by simp)
  rw [← hs]; exact sn_own hi ha (eBool_cl l)
theorem cells_eBool (x : Bool) : cellsD (eBool x) = [eBool x] := rfl
theorem eqBoolS_ok {N n : Nat} (hN : 4294967296 ≤ N) (a b : List Bool) (ha : a.length ≤ 1048576) (hb : b.length ≤ 1048576) :
    run1 S_laws_eqBoolS (qfn P N (n + 1) n_laws_eqBoolS) [.sl [.sc] (a.map eBool), .sl [.sc] (b.map eBool)] = some ([.bool (decide (a = b))], []) := by
  refine run1_of (ν := []) rfl rfl rfl (r := [.bool (decide (a = b))]) ?_ (resO_sc rfl)
  rw [laws_eqBoolS_eq]
  unfold P_laws_eqBoolS
  simp
  by_cases hl : ¬ a.length = b.length
  · have : a ≠ b := fun h => hl (by rw [h])
    simp [this, show ¬ ((a.length : Int) = b.length) by omega]
  have hl := Decidable.of_not_not hl
  simp [hl]
  refine (loop_acc (σ := Unit) (len := a.length) (fun i _ => ([.sl [.sc] (a.map eBool), .sl [.sc] (b.map eBool), .int .i64 (i : Nat)] : List DV)) (fun _ _ => []) (fun _ _ => True) (fun i _ => some ([DV.bool (decide (a.drop i = b.drop i))], []))
    ?_ ?_ a.length (i := 0) (s := ()) trivial (by omega) (by omega)).trans (by simp)
  · intro i _ rec hi _
    have hi' : i < b.length := by omega
    have hx := drop_eq hi hi'
    unfold P_laws_eqBoolS.l0
    simp only [u3_list, qLen_sl, List.length_map, bd_some, qBin_lss, qB_bool, Int.ofNat_lt, hi, decide_true, cond_true, qIA_map _ (show [Sh.sc].length = 1 from rfl) hi, qIA_map _ (show [Sh.sc].length = 1 from rfl) hi', qLd_rp, cells_eBool, getC_one, List.getElem?_cons_zero, Option.map_some, b2_some, qBin_bne]
    by_cases hs : a[i] = b[i]
    · refine .inl ⟨(), trivial, ?_, ?_⟩
      · simp [hs]
        rw [wrapI (n := (i : Int) + 1) (by constructor <;> omega)]
      · simp [hx, hs]
    · refine .inr ?_
      simp [hx, hs, beq_eq_false_iff_ne.2 hs]
  · intro _ rec _
    unfold P_laws_eqBoolS.l0
    simp [hl]
theorem cq_eqBool {N n : Nat} (hN : 4294967296 ≤ N) (l : List Bool) (hlen : l.length ≤ 1048576) {μ : PH} {i j : Nat} (hi : bk μ i 0 = some (boolB l)) (hj : bk μ j 0 = some (boolB l)) :
    cq S_laws_eqBoolS (qfn P N (n + 1) n_laws_eqBoolS) [.own i 0 0 l.length l.length false, .own j 0 0 l.length l.length false] μ = some ([.bool true], μ) := by
  rw [cq_sn (args' := [.sl [.sc] (l.map eBool), .sl [.sc] (l.map eBool)]) rfl (by simp only [sns, S_laws_eqBoolS, snBool hi rfl rfl rfl, snBool hj rfl rfl rfl, Option.bind_some]) (eqBoolS_ok (n := n) hN l l hlen hlen) rfl, adL_sc rfl]
  simp
def marksBool (k : Int) (n : Nat) : List Bool := (List.range n).map fun i => decide ((k + (i : Nat)).tmod 3 = 0)
theorem marksBool_len (k : Int) (n : Nat) : (marksBool k n).length = n := by simp [marksBool]
theorem marksBool_get (k : Int) (n i : Nat) (h : i < (marksBool k n).length) : (marksBool k n)[i] = (decide ((k + (i : Nat)).tmod 3 = 0)) := by simp [marksBool]
theorem markBoolS_ok {N n : Nat} (hN : 4294967296 ≤ N) {μ : PH} {id ver c : Nat} {x : Bool} {b : PB} {xs : List Bool} {k : Int} (hb : bk μ id ver = some b) (hel : b.el = xs.map eBool) (hsh : b.sh = [.sc]) (hop : b.op = false)
    (hn : xs.length ≤ 1048576) (h0 : 0 < k) (h1 : k ≤ 100000000) :
    qfn P N (n + 1) n_laws_markBoolS [.own id ver 0 xs.length c x, .int .i64 k] μ = some ([.int .i64 (k + xs.length)], μ.set id { b with el := (marksBool k xs.length).map eBool }) := by
  have hid : id < μ.length := bk_lt hb
  have hlv := (bk_some hb).2
  rw [laws_markBoolS_eq]
  unfold P_laws_markBoolS
  have hm0 : μ = μ.set id { b with el := (mix (marksBool k xs.length) xs 0).map eBool } := by
    rw [mix_zero, ← hel]; exact (bk_self hb).symm
  have hml := marksBool_len k xs.length
  conv => lhs; rw [hm0]
  refine Eq.trans (by simp) (loop_acc (F := P_laws_markBoolS.l0 N (qfn P N n) μ.length) (N := N) (σ := Unit) (len := xs.length) (fun i _ => ([.own id ver 0 xs.length c x, .int .i64 (k + (i : Nat)), .int .i64 (i : Nat)] : List DV)) (fun i _ => μ.set id { b with el := (mix (marksBool k xs.length) xs i).map eBool })
    (fun _ _ => True) (fun i _ => some ([DV.int .i64 (k + xs.length)], μ.set id { b with el := (marksBool k xs.length).map eBool })) ?_ ?_ xs.length (i := 0) (s := ()) trivial (by omega) (by omega))
  · intro i _ rec hi _
    refine .inl ⟨(), trivial, ?_, rfl⟩
    have hbk : bk (μ.set id { b with el := (mix (marksBool k xs.length) xs i).map eBool }) id ver = some { b with el := (mix (marksBool k xs.length) xs i).map eBool } := by
      have := bk_set (μ := μ) (b := { b with el := (mix (marksBool k xs.length) xs i).map eBool }) hid hlv.1
      rw [← hlv.2]; exact this
    unfold P_laws_markBoolS.l0
    simp only [u3_list, qLen_own hbk, bd_some, qBin_lss, qB_bool, Int.ofNat_lt, hi, decide_true, cond_true, qBin_rem _ _ _ (k + (i : Nat)) 3 (by decide), qBin_eql, u1_list]
    have hi' : i < (marksBool k xs.length).length := by omega
    simp only [qIA_own (size := 1) hbk rfl hi (by rw [hsh]; rfl), bd_some, Nat.zero_add]
    rw [qSt_ptr (size := 1) (cs := [eBool (decide ((k + (i : Nat)).tmod 3 = 0))]) hbk (e := eBool xs[i]) (by rw [List.getElem?_map, mix_get hml hi']; rfl) rfl (Nat.le_refl 1) (by rw [hop, hsh]; rfl)]
    simp only [bd_some, qBin_add]
    rw [wrapI (n := (i : Int) + 1) (by constructor <;> omega), wrapI (n := k + (i : Nat) + 1) (by constructor <;> omega)]
    have h2 : mkE (eBool xs[i]) (overD (cellsD (eBool xs[i])) 0 [eBool (decide ((k + (i : Nat)).tmod 3 = 0))]) = eBool (decide ((k + (i : Nat)).tmod 3 = 0)) := rfl
    have h3 : ((mix (marksBool k xs.length) xs i).map eBool).set i (eBool (decide ((k + (i : Nat)).tmod 3 = 0))) = (mix (marksBool k xs.length) xs (i + 1)).map eBool := by
      rw [← mix_set hml hi', marksBool_get, List.map_set]
    simp only [h2, h3, List.set_set]
    rw [show k + (i : Nat) + 1 = k + ((i + 1 : Nat) : Int) by omega]
    rfl
  · intro _ rec _
    have hbk : bk (μ.set id { b with el := (mix (marksBool k xs.length) xs xs.length).map eBool }) id ver = some { b with el := (mix (marksBool k xs.length) xs xs.length).map eBool } := by
      have := bk_set (μ := μ) (b := { b with el := (mix (marksBool k xs.length) xs xs.length).map eBool }) hid hlv.1
      rw [← hlv.2]; exact this
    unfold P_laws_markBoolS.l0
    have hlast : mix (marksBool k xs.length) xs xs.length = marksBool k xs.length := by
      conv => lhs; arg 3; rw [← hml]
      exact mix_last hml
    simp [qLen_own hbk]
    rw [hlast]
theorem heldBoolS_ok {N n : Nat} (hN : 4294967296 ≤ N) (m : Nat) (k : Int) (hn : m ≤ 1048576) (h0 : 0 < k) (h1 : k ≤ 100000000) :
    run1 S_laws_heldBoolS (qfn P N (n + 1) n_laws_heldBoolS) [.sl [.sc] ((marksBool k m).map eBool), .int .i64 k] = some ([.int .i64 (k + m)], []) := by
  refine run1_of (ν := []) rfl rfl rfl (r := [.int .i64 (k + m)]) ?_ (resO_sc rfl)
  rw [laws_heldBoolS_eq]
  unfold P_laws_heldBoolS
  have hml := marksBool_len k m
  refine Eq.trans (by simp) (loop_acc (F := P_laws_heldBoolS.l0 N (qfn P N n) 0) (N := N) (σ := Unit) (len := m) (fun i _ => ([.sl [.sc] ((marksBool k m).map eBool), .int .i64 (k + (i : Nat)), .int .i64 (i : Nat)] : List DV)) (fun _ _ => [])
    (fun _ _ => True) (fun i _ => some ([DV.int .i64 (k + m)], [])) ?_ ?_ m (i := 0) (s := ()) trivial (by omega) (by omega))
  · intro i _ rec hi _
    refine .inl ⟨(), trivial, ?_, rfl⟩
    have hi' : i < (marksBool k m).length := by omega
    unfold P_laws_heldBoolS.l0
    simp only [u3_list, qLen_sl, List.length_map, hml, bd_some, qBin_lss, qB_bool, Int.ofNat_lt, hi, decide_true, cond_true, qIA_map _ (show [Sh.sc].length = 1 from rfl) hi', qLd_rp, cells_eBool, getC_one, List.getElem?_cons_zero, Option.map_some, b2_some,
      c1_some, u1_list, qBin_rem _ _ _ (k + (i : Nat)) 3 (by decide), qBin_eql, qBin_bne, marksBool_get, ne_eq, not_true_eq_false, decide_false, cond_false, qBin_add, beq_self_eq_true, Bool.not_true]
    rw [wrapI (n := (i : Int) + 1) (by constructor <;> omega), wrapI (n := k + (i : Nat) + 1) (by constructor <;> omega)]
    rw [show k + (i : Nat) + 1 = k + ((i + 1 : Nat) : Int) by omega]
    rfl
  · intro _ rec _
    unfold P_laws_heldBoolS.l0
    simp [hml]
theorem cq_heldBool {N n : Nat} (hN : 4294967296 ≤ N) (m : Nat) (k : Int) (hn : m ≤ 1048576) (h0 : 0 < k) (h1 : k ≤ 100000000) {μ : PH} {args : List DV} (hs : sns μ S_laws_heldBoolS.ps args = some [.sl [.sc] ((marksBool k m).map eBool), .int .i64 k]) :
    cq S_laws_heldBoolS (qfn P N (n + 1) n_laws_heldBoolS) args μ = some ([.int .i64 (k + m)], μ) := by
  rw [cq_sn rfl hs (heldBoolS_ok hN m k hn h0 h1) rfl, adL_sc rfl]
end Go.Lg.Pv.Q
namespace Go.Lg.Pv.Q
open Go Go.Lg Go.Lg.Pv
set_option linter.unusedVariables false
set_option linter.unusedSimpArgs false
set_option maxRecDepth 100000

def recOf (o : VOp) : Rec := ⟨o.kind, o.loc, o.long, o.data⟩
def recFor (o : VOp) : Rec × Bool := if o.keep = 0 ∧ 1 ≤ o.kind ∧ o.kind ≤ 3 ∧ good (recOf o) = true then (recOf o, true) else (rec0, false)
theorem bRec0 : qBuild [.int .i64 0, .int .i64 0, .int .i64 0, .str ⟨#[]⟩] [(0, 1, false), (1, 1, false), (2, 1, false), (3, 1, false)] [] = some (.agg [.int .i64 0, .int .i64 0, .int .i64 0, .str ⟨#[]⟩]) := rfl
theorem bRec (a b c : Int) (s : ByteArray) : qBuild [.int .i64 0, .int .i64 0, .int .i64 0, .str ⟨#[]⟩] [(0, 1, false), (1, 1, false), (2, 1, false), (3, 1, false)] [(0, .int .i64 a), (1, .int .i64 b), (2, .int .i64 c), (3, .str s)] = some (.agg [.int .i64 a, .int .i64 b, .int .i64 c, .str s]) := rfl
theorem cq_goodI {N n : Nat} (μ : PH) (r : Rec) : cq S_impl_GoodRecord (qfn P N (n + 2) n_impl_GoodRecord) [r.enc] μ = some ([.bool (good r)], μ) := by
  rw [cq_sn (args' := [r.enc]) (res := [.bool (good r)]) rfl (by simp only [sns, S_impl_GoodRecord, sn_cl _ _ (Rec.cl r), Option.bind_some]) ?_ rfl, adL_sc rfl]
  exact run1_of (ν := []) rfl rfl rfl (r := [.bool (good r)]) (goodI [] r) (resO_sc rfl)
theorem recForI {N n : Nat} (o : VOp) : run1 S_impl_RecordFor (qfn P N (n + 3) n_impl_RecordFor) [o.enc] = some ([(recFor o).1.enc, .bool (recFor o).2], []) := by
  refine run1_of (ν := []) rfl rfl rfl (r := [(recFor o).1.enc, .bool (recFor o).2]) ?_ rfl
  rw [impl_RecordFor_eq]
  have hg := cq_goodI (N := N) (n := n) [] (recOf o)
  unfold recOf Rec.enc at hg
  unfold P_impl_RecordFor VOp.enc
  simp only [a5_agg, a4_agg, qBin_neq, bd_some, qB_bool, bRec0, bRec, within_ok, c1_some, u1_list, qUn_not, hg]
  unfold recFor
  by_cases h1 : o.keep = 0
  · by_cases h2 : 1 ≤ o.kind <;> by_cases h3 : o.kind ≤ 3 <;> cases h4 : good (recOf o) <;> unfold recOf at h4 <;> simp [h1, h2, h3, h4, recOf, Rec.enc, rec0]
  · simp [h1, rec0, Rec.enc]
theorem recForS {N n : Nat} (o : VOp) : run1 S_spec_RecordFor (qfn P N (n + 4) n_spec_RecordFor) [o.enc] = some ([(recFor o).1.enc, .bool (recFor o).2], []) := by
  refine run1_of (ν := []) rfl rfl rfl (r := [(recFor o).1.enc, .bool (recFor o).2]) ?_ rfl
  rw [spec_RecordFor_eq]
  have hg := goodS (N := N) (n := n) [] (recOf o)
  unfold recOf Rec.enc at hg
  unfold P_spec_RecordFor VOp.enc
  simp only [a5_agg, a4_agg, qBin_neq, bd_some, qB_bool, bRec0, bRec, l1In_ok, c1_some, u1_list, qUn_not, hg]
  unfold recFor
  by_cases h1 : o.keep = 0
  · by_cases h2 : 1 ≤ o.kind <;> by_cases h3 : o.kind ≤ 3 <;> cases h4 : good (recOf o) <;> unfold recOf at h4 <;> simp [h1, h2, h3, h4, recOf, Rec.enc, rec0]
  · by_cases h2 : 1 ≤ o.kind <;> by_cases h3 : o.kind ≤ 3 <;> simp [h1, h2, h3, rec0, Rec.enc]
theorem adL_ab (μ : PH) (r : Rec) (b : Bool) : adL true μ [r.enc, .bool b] = ([r.enc, .bool b], μ) := rfl
theorem cq_recForI {N n : Nat} (o : VOp) (μ : PH) : cq S_impl_RecordFor (qfn P N (n + 3) n_impl_RecordFor) [o.enc] μ = some ([(recFor o).1.enc, .bool (recFor o).2], μ) := by
  rw [cq_sn (args' := [o.enc]) rfl (by simp only [sns, S_impl_RecordFor, sn_cl _ _ (VOp.cl o), Option.bind_some]) (recForI o) rfl, adL_ab]
theorem cq_recForS {N n : Nat} (o : VOp) (μ : PH) : cq S_spec_RecordFor (qfn P N (n + 4) n_spec_RecordFor) [o.enc] μ = some ([(recFor o).1.enc, .bool (recFor o).2], μ) := by
  rw [cq_sn (args' := [o.enc]) rfl (by simp only [sns, S_spec_RecordFor, sn_cl _ _ (VOp.cl o), Option.bind_some]) (recForS o) rfl, adL_ab]

/-! marks -/
def markL (m : Int) (l : List Rec) : Int := l.foldl (fun m r => if r.kind = 3 then r.loc else m) m
theorem markOf_ok {N n : Nat} (hN : 4294967296 ≤ N) (m : Int) (l : List Rec) (hlen : l.length ≤ 1048576) {μ : PH} {args : List DV} (hs : sns μ S_impl_markOf.ps args = some [.int .i64 m, .sl shRec (l.map Rec.enc)]) :
    cq S_impl_markOf (qfn P N (n + 1) n_impl_markOf) args μ = some ([.int .i64 (markL m l)], μ) := by
  rw [cq_sn (res := [.int .i64 (markL m l)]) rfl hs ?_ rfl, adL_sc rfl]
  refine run1_of (ν := []) rfl rfl rfl (r := [.int .i64 (markL m l)]) ?_ (resO_sc rfl)
  rw [impl_markOf_eq]
  unfold P_impl_markOf
  refine Eq.trans (by simp) (loop_acc (F := P_impl_markOf.l0 N (qfn P N n) 0) (N := N) (σ := Int) (len := l.length) (fun i m => ([.int .i64 m, .sl shRec (l.map Rec.enc), .int .i64 (l.length : Nat), .int .i64 (i : Nat)] : List DV)) (fun _ _ => []) (fun _ _ => True) (fun i m => some ([DV.int .i64 (markL m (l.drop i))], []))
    ?_ ?_ l.length (i := 0) (s := m) trivial (by omega) (by omega))
  · intro i m rec hi _
    have hx : l.drop i = l[i] :: l.drop (i + 1) := List.drop_eq_getElem_cons hi
    rw [hx]
    unfold P_impl_markOf.l0
    simp only [u4_list, bd_some, qBin_lss, qB_bool, Int.ofNat_lt, hi, decide_true, cond_true, qIA_map _ (show shRec.length = 4 from rfl) hi, qLd_rp, Rec.get, Option.map_some, b2_some]
    unfold Rec.enc
    simp only [a4_agg, qBin_eql, qBin_add, bd_some, qB_bool]
    rw [wrapI (n := (i : Int) + 1) (by constructor <;> omega)]
    refine .inl ⟨if l[i].kind = 3 then l[i].loc else m, trivial, ?_, rfl⟩
    by_cases hk : l[i].kind = 3
    · simp only [hk, decide_true, cond_true, if_true]; rfl
    · simp only [hk, decide_false, cond_false, if_false]; rfl
  · intro m rec _
    unfold P_impl_markOf.l0
    simp [markL]
theorem l6Mark_ok {N n : Nat} (hN : 4294967296 ≤ N) (v : Vol) (hlen : v.log.length ≤ 1048576) {μ : PH} {args : List DV} (hs : sns μ S_spec_l6Mark.ps args = some [v.enc]) :
    cq S_spec_l6Mark (qfn P N (n + 1) n_spec_l6Mark) args μ = some ([.int .i64 (markL v.folded v.log)], μ) := by
  rw [cq_sn (res := [.int .i64 (markL v.folded v.log)]) rfl hs ?_ rfl, adL_sc rfl]
  refine run1_of (ν := []) rfl rfl rfl (r := [.int .i64 (markL v.folded v.log)]) ?_ (resO_sc rfl)
  rw [spec_l6Mark_eq]
  unfold P_spec_l6Mark Vol.enc
  generalize v.log = l at hlen
  refine Eq.trans (by simp) (loop_acc (F := P_spec_l6Mark.l0 N (qfn P N n) 0) (N := N) (σ := Int) (len := l.length) (fun i m => ([.int .i64 m, .sl shRec (l.map Rec.enc), .int .i64 (l.length : Nat), .int .i64 (i : Nat)] : List DV)) (fun _ _ => []) (fun _ _ => True) (fun i m => some ([DV.int .i64 (markL m (l.drop i))], []))
    ?_ ?_ l.length (i := 0) (s := v.folded) trivial (by omega) (by omega))
  · intro i m rec hi _
    have hx : l.drop i = l[i] :: l.drop (i + 1) := List.drop_eq_getElem_cons hi
    rw [hx]
    unfold P_spec_l6Mark.l0
    simp only [u4_list, bd_some, qBin_lss, qB_bool, Int.ofNat_lt, hi, decide_true, cond_true, qIA_map _ (show shRec.length = 4 from rfl) hi, qLd_rp, Rec.get, Option.map_some, b2_some]
    unfold Rec.enc
    simp only [a4_agg, qBin_eql, qBin_add, bd_some, qB_bool]
    rw [wrapI (n := (i : Int) + 1) (by constructor <;> omega)]
    refine .inl ⟨if l[i].kind = 3 then l[i].loc else m, trivial, ?_, rfl⟩
    by_cases hk : l[i].kind = 3
    · simp only [hk, decide_true, cond_true, if_true]; rfl
    · simp only [hk, decide_false, cond_false, if_false]; rfl
  · intro m rec _
    unfold P_spec_l6Mark.l0
    simp [markL]
theorem markI_ok {N n : Nat} (hN : 4294967296 ≤ N) (v : Vol) (hlen : v.log.length ≤ 1048576) {μ : PH} {args : List DV} (hs : sns μ S_impl_Volume_mark.ps args = some [v.enc]) :
    cq S_impl_Volume_mark (qfn P N (n + 2) n_impl_Volume_mark) args μ = some ([.int .i64 (markL v.folded v.log)], μ) := by
  rw [cq_sn (res := [.int .i64 (markL v.folded v.log)]) rfl hs ?_ rfl, adL_sc rfl]
  refine run1_of (ν := []) rfl rfl rfl (r := [.int .i64 (markL v.folded v.log)]) ?_ (resO_sc rfl)
  rw [impl_Volume_mark_eq]
  unfold P_impl_Volume_mark Vol.enc
  simp only [a4_agg]
  rw [markOf_ok hN v.folded v.log hlen (by simp only [sns, S_impl_markOf, snI, sn_cl _ _ (recs_cl v.log), Option.bind_some])]
  simp only [c1_some, u1_list]

/-! copies -/
theorem flat_rec (r : Rec) : flat r.enc = true := rfl
theorem cloneR_ok {N n : Nat} (l : List Rec) (hlen : l.length ≤ 1048576) : run1 S_slices_Clone_impl_Record_impl_Record (qfn P N (n + 1) n_slices_Clone_impl_Record_impl_Record) [.sl shRec (l.map Rec.enc)] = some ([.sl shRec (l.map Rec.enc)], []) :=
  clone_run (T := 37) (by_ := 40) (agg := true) (zero := [.int .i64 0, .int .i64 0, .int .i64 0, .str ⟨#[]⟩]) rfl (by rw [slices_Clone_impl_Record_impl_Record_eq]; rfl) rfl rfl (flatL_map flat_rec l) (clL_map Rec.cl l) (by simp; omega) (by decide) (by simp; omega)
theorem cq_cloneT {N n : Nat} (l : List ByteArray) (hlen : l.length ≤ 1048576) {μ : PH} {args : List DV} (hs : sns μ S_slices_Clone_string_string.ps args = some [.sl [.sc] (l.map DV.str)]) :
    cq S_slices_Clone_string_string (qfn P N (n + 1) n_slices_Clone_string_string) args μ = some ([.own μ.length 0 0 l.length l.length false], μ ++ [tB 0 l]) := by
  rw [cq_sn rfl hs (cloneT_ok l hlen) rfl, adL_sl, List.length_map]; rfl
theorem cq_cloneR {N n : Nat} (l : List Rec) (hlen : l.length ≤ 1048576) {μ : PH} {args : List DV} (hs : sns μ S_slices_Clone_impl_Record_impl_Record.ps args = some [.sl shRec (l.map Rec.enc)]) :
    cq S_slices_Clone_impl_Record_impl_Record (qfn P N (n + 1) n_slices_Clone_impl_Record_impl_Record) args μ = some ([.own μ.length 0 0 l.length l.length false], μ ++ [rB l]) := by
  rw [cq_sn rfl hs (cloneR_ok l hlen) rfl, adL_sl, List.length_map]; rfl
def vAg (i : Nat) (j : Nat) (v : Vol) : List DV := [.own i 0 0 v.base.length v.base.length false, .int .i64 v.folded, .own j 0 0 v.log.length v.log.length false, .int .i64 v.sure]
theorem ownI {N n : Nat} (v : Vol) (h1 : v.base.length ≤ 1048576) (h2 : v.log.length ≤ 1048576) : run1 S_impl_Volume_own (qfn P N (n + 2) n_impl_Volume_own) [v.enc] = some ([v.enc], []) := by
  refine run1_of rfl rfl rfl (r := [.agg (vAg 1 2 v)]) (ν := [⟨0, shVol, [.agg (vAg 1 2 v)], true, true, true⟩, tB 0 v.base, rB v.log]) (ν' := kl (kl [⟨0, shVol, [.agg (vAg 1 2 v)], true, true, true⟩, tB 0 v.base, rB v.log] 1) 2) ?_ ?_
  · rw [impl_Volume_own_eq]
    unfold P_impl_Volume_own Vol.enc
    generalize hT : DV.sl [.sc] (v.base.map DV.str) = T
    generalize hR : DV.sl shRec (v.log.map Rec.enc) = R
    have q1 : qAl [] true shVol true [T, .int .i64 v.folded, R, .int .i64 v.sure] = some (.ptr 0 0 0 0, [⟨0, shVol, [.agg [T, .int .i64 v.folded, R, .int .i64 v.sure]], true, true, true⟩]) := by subst hT hR; rfl
    simp only [a4_agg, q1, b2_some]
    have q2 : ∀ b off, qFA (⟨0, shVol, [b], true, true, true⟩ :: []) (.ptr 0 0 0 0) off = some (.ptr 0 0 0 (0 + off)) := fun b off => rfl
    have q3 : ∀ a b c d, qLd [⟨0, shVol, [.agg [a, b, c, d]], true, true, true⟩] 1 false (.ptr 0 0 0 (0 + 0)) = some (a, [⟨0, shVol, [.agg [a, b, c, d]], true, true, true⟩]) := fun a b c d => rfl
    have q4 : ∀ a b c d, qLd [⟨0, shVol, [.agg [a, b, c, d]], true, true, true⟩] 1 false (.ptr 0 0 0 (0 + 2)) = some (c, [⟨0, shVol, [.agg [a, b, c, d]], true, true, true⟩]) := fun a b c d => rfl
    simp only [q2, bd_some, q3, b2_some, q4]
    subst hT hR
    rw [cq_cloneT v.base h1 (by simp only [sns, S_slices_Clone_string_string, sn_cl _ _ (txts_cl v.base), Option.bind_some])]
    simp only [c1_some, u1_list, List.length_cons, List.length_nil, List.cons_append, List.nil_append, Nat.zero_add]
    have q5 : idsL [.sl [.sc] (v.base.map DV.str)] = [] := cl_idsL _ (by simp only [clL, txts_cl, Bool.and_self])
    rw [cq_cloneR v.log h2 (by simp only [sns, S_slices_Clone_impl_Record_impl_Record, sn_cl _ _ (recs_cl v.log), Option.bind_some]), q5]
    rfl
  · have hb : bk [⟨0, shVol, [.agg (vAg 1 2 v)], true, true, true⟩, tB 0 v.base, rB v.log] 1 0 = some (tB 0 v.base) := rfl
    have hb2 : bk (kl [⟨0, shVol, [.agg (vAg 1 2 v)], true, true, true⟩, tB 0 v.base, rB v.log] 1) 2 0 = some (rB v.log) := rfl
    have t1 := tk_own (s := .sl [.sc]) (x := false) (c := v.base.length) hb rfl rfl (own_all (b := tB 0 v.base) (l := v.base.map DV.str) (n := v.base.length) rfl (by simp)) (txt_cl v.base)
    have t2 := tk_own (s := .sl shRec) (x := false) (c := v.log.length) hb2 rfl rfl (own_all (b := rB v.log) (l := v.log.map Rec.enc) (n := v.log.length) rfl (by simp)) (clL_map Rec.cl v.log)
    have t3 : ∀ (μ : PH) (s : Sh) (k : IntKind) (a : Int), tkC μ s (.int k a) = some (.int k a, μ) := fun _ _ _ _ => rfl
    simp only [resO, S_impl_Volume_own, onS, zipS, vAg, List.headD_cons, List.tail_cons, t3, Option.bind_some, Option.map_some]
    unfold vAg at t1 t2
    simp only [t1, t2, t3, Option.bind_some, Option.map_some]
    rfl
end Go.Lg.Pv.Q
namespace Go.Lg.Pv.Q
open Go Go.Lg Go.Lg.Pv
set_option linter.unusedVariables false
set_option linter.unusedSimpArgs false
set_option maxRecDepth 100000

def zero5 (o : VOp) : Prop := o.loc = 0 ∧ o.long = 0 ∧ o.data = ⟨#[]⟩
instance (o : VOp) : Decidable (zero5 o) := by unfold zero5; infer_instance
def foldV (v : Vol) : Vol := ⟨foldR (v.log.take v.sure.toNat) v.base, markL v.folded (v.log.take v.sure.toNat), v.log.drop v.sure.toNat, 0⟩
def doV (v : Vol) (o : VOp) : Vol × Bool :=
  if 1 ≤ o.kind ∧ o.kind ≤ 3 then
    (if (recFor o).2 = true ∧ v.log.length ≠ 40 ∧ (o.kind = 3 → o.loc = markL v.folded v.log + 1) then ({ v with log := v.log ++ [recOf o] }, true) else (v, false))
  else if ¬ zero5 o ∨ (o.kind ≠ 5 ∧ o.keep ≠ 0) then (v, false)
  else if o.kind = 4 then ({ v with sure := v.log.length }, true)
  else if o.kind = 5 then (if v.sure ≤ o.keep ∧ o.keep ≤ v.log.length then ({ v with log := v.log.take o.keep.toNat, sure := o.keep }, true) else (v, false))
  else if o.kind = 6 then (foldV v, true)
  else (v, false)

/-- a volume that is well -/
structure VOk (v : Vol) : Prop where
  b : v.base.length = 16
  l : v.log.length ≤ 40
  g : v.log.all good = true
  s0 : 0 ≤ v.sure
  s1 : v.sure ≤ v.log.length
  f0 : 0 ≤ v.folded
  f1 : v.folded ≤ 200
theorem goodV_ok {v : Vol} (h : goodV v = true) : VOk v := by
  obtain ⟨h1, h2, h3⟩ := goodV_get h
  unfold goodV at h
  simp only [Bool.and_eq_true, decide_eq_true_eq] at h
  exact ⟨h1, h2, h3, by omega, by omega, by omega, by omega⟩
theorem good_mark {r : Rec} (h : good r = true) (hk : r.kind = 3) : 0 ≤ r.loc ∧ r.loc ≤ 200 := by
  unfold good at h
  rw [if_neg (by omega), if_neg (by omega), if_pos hk] at h
  simp only [Bool.and_eq_true, decide_eq_true_eq] at h
  omega
theorem markL_in : ∀ (l : List Rec) (m : Int), l.all good = true → 0 ≤ m → m ≤ 200 → 0 ≤ markL m l ∧ markL m l ≤ 200
  | [], m, _, h0, h1 => ⟨h0, h1⟩
  | r :: l, m, hg, h0, h1 => by
    simp only [List.all_cons, Bool.and_eq_true] at hg
    show 0 ≤ markL (if r.kind = 3 then r.loc else m) l ∧ _
    by_cases hk : r.kind = 3
    · obtain ⟨g0, g1⟩ := good_mark hg.1 hk
      rw [if_pos hk]
      have := markL_in l r.loc hg.2 g0 g1
      simp only [markL, List.foldl_cons, hk, if_true] at this ⊢; exact this
    · rw [if_neg hk]
      have := markL_in l m hg.2 h0 h1
      simp only [markL, List.foldl_cons, hk, if_false] at this ⊢; exact this
theorem recFor_ok {o : VOp} (h : (recFor o).2 = true) : recFor o = (recOf o, true) ∧ good (recOf o) = true := by
  unfold recFor at h ⊢
  by_cases hc : o.keep = 0 ∧ 1 ≤ o.kind ∧ o.kind ≤ 3 ∧ good (recOf o) = true
  · rw [if_pos hc]; exact ⟨rfl, hc.2.2.2⟩
  · rw [if_neg hc] at h; cases h
theorem all_take {l : List Rec} (h : l.all good = true) (n : Nat) : (l.take n).all good = true := by
  rw [List.all_eq_true] at h ⊢; exact fun x hx => h x (List.mem_of_mem_take hx)
theorem all_drop {l : List Rec} (h : l.all good = true) (n : Nat) : (l.drop n).all good = true := by
  rw [List.all_eq_true] at h ⊢; exact fun x hx => h x (List.mem_of_mem_drop hx)
theorem doV_ok {v : Vol} (h : VOk v) (o : VOp) : VOk (doV v o).1 := by
  unfold doV
  have hb := h.b; have hl := h.l; have hs0 := h.s0; have hs1 := h.s1
  split
  · split
    · rename_i hc
      refine ⟨h.b, ?_, ?_, h.s0, ?_, h.f0, h.f1⟩
      · simp only [List.length_append, List.length_cons, List.length_nil]; omega
      · rw [List.all_append, h.g]; simp [(recFor_ok hc.1).2]
      · simp only [List.length_append, List.length_cons, List.length_nil]; omega
    · exact h
  · split
    · exact h
    · split
      · exact ⟨h.b, h.l, h.g, by show (0 : Int) ≤ (v.log.length : Nat); omega, Int.le_refl _, h.f0, h.f1⟩
      · split
        · split
          · rename_i hc
            refine ⟨h.b, ?_, all_take h.g _, by show 0 ≤ o.keep; omega, ?_, h.f0, h.f1⟩
            · simp only [List.length_take]; omega
            · show o.keep ≤ ((v.log.take o.keep.toNat).length : Nat); rw [List.length_take]; omega
          · exact h
        · split
          · have hm := markL_in (v.log.take v.sure.toNat) v.folded (all_take h.g _) h.f0 h.f1
            exact ⟨by show (foldR _ _).length = 16; rw [foldR_len]; exact h.b, by show (v.log.drop _).length ≤ 40; rw [List.length_drop]; omega, all_drop h.g _, Int.le_refl _, by show (0 : Int) ≤ ((v.log.drop _).length : Nat); omega, hm.1, hm.2⟩
          · exact h

/-! one record is done, wherever the blocks lie -/
theorem st_tG {μ : PH} {id v : Nat} {bl : List ByteArray} {j : Nat} {s : ByteArray} (hb : bk μ id v = some (tB v bl)) (h : j < bl.length) : qSt μ 1 (.ptr id v j 0) (.str s) = some (μ.set id (tB v (bl.set j s))) := by
  rw [qSt_ptr (size := 1) (cs := [.str s]) hb (e := .str bl[j]) (by simp [tB, h]) rfl (Nat.le_refl 1) rfl]
  simp only [tB, List.map_set]
  rfl
theorem ia_tG {μ : PH} {id v : Nat} {bl : List ByteArray} {j : Nat} {a : Int} {k : IntKind} (hb : bk μ id v = some (tB v bl)) (ha : a = (j : Nat)) (h : j < bl.length) : qIA μ 1 (.own id v 0 bl.length bl.length false) (.int k a) = some (.ptr id v j 0) := by
  rw [qIA_own (size := 1) hb ha h rfl, Nat.zero_add]
theorem do_G {N n id v : Nat} (hN : 4294967296 ≤ N) {μ : PH} {bl : List ByteArray} {r : Rec} (hb : bk μ id v = some (tB v bl)) (h16 : bl.length = 16) (hg : good r = true) :
    qfn P N (n + 1) n_impl_Record_do [r.enc, .own id v 0 16 16 false] μ = some ([], μ.set id (tB v (doN r bl r.long.toNat))) := by
  have hid := bk_lt hb
  have hself : μ.set id (tB v bl) = μ := bk_self hb
  have hbk : ∀ x, bk (μ.set id (tB v x)) id v = some (tB v x) := fun x => bk_set (μ := μ) (b := tB v x) hid rfl
  rw [impl_Record_do_eq]
  obtain ⟨g0, g1, g2, g3⟩ := good_long hg
  unfold P_impl_Record_do Rec.enc
  obtain ⟨m, hm⟩ : ∃ m : Nat, r.long = (m : Int) := ⟨r.long.toNat, by omega⟩
  simp only [a4_agg, hm, Int.toNat_natCast]
  conv => lhs; rw [← hself]
  refine Eq.trans (by simp [doN]) (loop_acc (F := P_impl_Record_do.l0 N (qfn P N n) μ.length) (N := N) (σ := Unit) (len := m) (fun i _ => ([.own id v 0 16 16 false, .int .i64 (m : Nat), .int .i64 (i : Nat), .int .i64 r.kind, .int .i64 r.loc, .int .i64 (m : Nat), .str r.data] : List DV)) (fun i _ => μ.set id (tB v (doN r bl i))) (fun _ _ => True) (fun _ _ => some ([], μ.set id (tB v (doN r bl m))))
    ?_ ?_ m (i := 0) (s := ()) trivial (by omega) (by omega))
  · intro i _ rec hi _
    refine .inl ⟨(), trivial, ?_, rfl⟩
    obtain ⟨g4, g5⟩ := g2 (by omega)
    have hj : r.loc.toNat + i < (doN r bl i).length := by rw [doN_len, h16]; omega
    have hw : IntKind.i64.wrap (r.loc + (i : Nat)) = r.loc + (i : Nat) := wrapI (by constructor <;> omega)
    have hia := ia_tG (k := .i64) (a := r.loc + (i : Nat)) (j := r.loc.toNat + i) (hbk (doN r bl i)) (by omega) hj
    rw [doN_len, h16] at hia
    unfold P_impl_Record_do.l0
    simp only [u7_list, qBin_lss, bd_some, qB_bool, Int.ofNat_lt, hi, decide_true, cond_true, qBin_eql, qBin_add, qBin_mul, hw, hia]
    rw [wrapI (n := (i : Int) + 1) (by constructor <;> omega), wrapI (n := 2 * (i : Int)) (by constructor <;> omega), wrapI (n := 2 * ((i : Int) + 1)) (by constructor <;> omega)]
    by_cases hk : r.kind = 1
    · have := g3 hk
      simp only [hk, decide_true, cond_true]
      rw [qSs_ok r.data i _ _ rfl (by omega) (by omega)]
      simp only [bd_some, st_tG (hbk _) hj, doN, piece, hk, if_true, List.set_set]
      rfl
    · simp only [hk, decide_false, cond_false]
      simp only [bd_some, st_tG (hbk _) hj, doN, piece, hk, if_false, List.set_set]
      rfl
  · intro _ rec _
    unfold P_impl_Record_do.l0
    simp
theorem l3Do_G {N n id v : Nat} (hN : 4294967296 ≤ N) {μ : PH} {bl : List ByteArray} {r : Rec} (hb : bk μ id v = some (tB v bl)) (h16 : bl.length = 16) (hg : good r = true) :
    qfn P N (n + 1) n_spec_l3Do [.own id v 0 16 16 false, r.enc] μ = some ([], μ.set id (tB v (doN r bl r.long.toNat))) := by
  have hid := bk_lt hb
  have hself : μ.set id (tB v bl) = μ := bk_self hb
  have hbk : ∀ x, bk (μ.set id (tB v x)) id v = some (tB v x) := fun x => bk_set (μ := μ) (b := tB v x) hid rfl
  rw [spec_l3Do_eq]
  obtain ⟨g0, g1, g2, g3⟩ := good_long hg
  unfold P_spec_l3Do Rec.enc
  obtain ⟨m, hm⟩ : ∃ m : Nat, r.long = (m : Int) := ⟨r.long.toNat, by omega⟩
  simp only [a4_agg, hm, Int.toNat_natCast]
  conv => lhs; rw [← hself]
  refine Eq.trans (by simp [doN]) (loop_acc (F := P_spec_l3Do.l0 N (qfn P N n) μ.length) (N := N) (σ := Unit) (len := m) (fun i _ => ([.own id v 0 16 16 false, .int .i64 (i : Nat), .int .i64 r.kind, .int .i64 r.loc, .int .i64 (m : Nat), .str r.data] : List DV)) (fun i _ => μ.set id (tB v (doN r bl i))) (fun _ _ => True) (fun _ _ => some ([], μ.set id (tB v (doN r bl m))))
    ?_ ?_ m (i := 0) (s := ()) trivial (by omega) (by omega))
  · intro i _ rec hi _
    refine .inl ⟨(), trivial, ?_, rfl⟩
    obtain ⟨g4, g5⟩ := g2 (by omega)
    have hj : r.loc.toNat + i < (doN r bl i).length := by rw [doN_len, h16]; omega
    have hj' : r.loc.toNat + i < ((doN r bl i).set (r.loc.toNat + i) Z2).length := by rw [List.length_set]; exact hj
    have hw : IntKind.i64.wrap (r.loc + (i : Nat)) = r.loc + (i : Nat) := wrapI (by constructor <;> omega)
    have hia := ia_tG (k := .i64) (a := r.loc + (i : Nat)) (j := r.loc.toNat + i) (hbk (doN r bl i)) (by omega) hj
    have hia' := ia_tG (k := .i64) (a := r.loc + (i : Nat)) (j := r.loc.toNat + i) (hbk ((doN r bl i).set (r.loc.toNat + i) Z2)) (by omega) hj'
    rw [doN_len, h16] at hia
    rw [List.length_set, doN_len, h16] at hia'
    unfold P_spec_l3Do.l0
    have hz : (DV.str ⟨#[0, 0]⟩) = .str Z2 := rfl
    simp only [u6_list, qBin_lss, bd_some, qB_bool, Int.ofNat_lt, hi, decide_true, cond_true, qBin_eql, qBin_add, qBin_mul, hw, hia, hz, st_tG (hbk _) hj, List.set_set]
    rw [wrapI (n := (i : Int) + 1) (by constructor <;> omega), wrapI (n := 2 * (i : Int)) (by constructor <;> omega), wrapI (n := 2 * (i : Int) + 2) (by constructor <;> omega)]
    by_cases hk : r.kind = 1
    · have := g3 hk
      simp only [hk, decide_true, cond_true]
      rw [qSs_ok r.data i _ _ rfl rfl (by omega)]
      simp only [bd_some, hia', st_tG (hbk _) hj', doN, piece, hk, if_true, List.set_set]
      rfl
    · simp only [hk, decide_false, cond_false]
      simp only [bd_some, doN, piece, hk, if_false]
      rfl
  · intro _ rec _
    unfold P_spec_l3Do.l0
    simp
end Go.Lg.Pv.Q
namespace Go.Lg.Pv.Q
open Go Go.Lg Go.Lg.Pv
set_option linter.unusedVariables false
set_option linter.unusedSimpArgs false
set_option maxRecDepth 100000

theorem qSl_hi {μ : PH} {id ver o n c z : Nat} {x : Bool} {b : PB} {kk : IntKind} {k : Int} (hb : bk μ id ver = some b) (hz : b.sh.length = z) (h0 : 0 ≤ k) (h1 : k ≤ n) (hc : n ≤ c) : qSl μ z (.own id ver o n c x) none (some (.int kk k)) none = some (.own id ver o k.toNat c x) := by
  simp [qSl, hb, hz, qBd, asID, h0, show k ≤ (c : Int) by omega]
theorem qSl_lo {μ : PH} {id ver o n c z : Nat} {x : Bool} {b : PB} {kk : IntKind} {k : Int} (hb : bk μ id ver = some b) (hz : b.sh.length = z) (h0 : 0 ≤ k) (h1 : k ≤ n) : qSl μ z (.own id ver o n c x) (some (.int kk k)) none none = some (.own id ver (o + k.toNat) (n - k.toNat) (c - k.toNat) x) := by
  simp [qSl, hb, hz, qBd, asID, h0, h1]
/-- a block that bears texts, records -/
structure IsT (b : PB) (l : List ByteArray) : Prop where
  sh : b.sh = [.sc]
  op : b.op = false
  wh : b.whole = true
  el : b.el = l.map DV.str
structure IsR (b : PB) (o n : Nat) (l : List Rec) : Prop where
  sh : b.sh = shRec
  op : b.op = false
  wh : b.whole = true
  el : (b.el.drop o).take n = l.map Rec.enc
theorem IsT.tB (v : Nat) (l : List ByteArray) : IsT (tB v l) l := ⟨rfl, rfl, rfl, rfl⟩
theorem IsR.rB (l : List Rec) : IsR (rB l) 0 l.length l := ⟨rfl, rfl, rfl, by simp only [Q.rB, List.drop_zero]; exact List.take_of_length_le (by simp)⟩
theorem IsR.len {b : PB} {o n : Nat} {l : List Rec} (h : IsR b o n l) (hn : o + n ≤ b.el.length) : n = l.length := by
  have := congrArg List.length h.el
  rw [List.length_take, List.length_drop, List.length_map] at this
  omega
theorem snVG {μ : PH} {i vi j vj o n c c' : Nat} {x y : Bool} {bi bj : PB} {w : Vol} (h1 : bk μ i vi = some bi) (t : IsT bi w.base) (h16 : w.base.length = 16) (h2 : bk μ j vj = some bj) (r : IsR bj o n w.log) :
    sn μ shVol (.agg [.own i vi 0 16 c' x, .int .i64 w.folded, .own j vj o n c y, .int .i64 w.sure]) = some w.enc := by
  have ha : (bi.el.drop 0).take 16 = w.base.map DV.str := by rw [t.el, List.drop_zero]; exact List.take_of_length_le (by rw [List.length_map]; omega)
  have e1 : snC μ 6 (.sl [.sc]) (.own i vi 0 16 c' x) = some (.sl [.sc] (w.base.map DV.str)) := by
    have := sn_own (s := [.sl [.sc]]) (c := c') (x := x) h1 ha (txt_cl w.base); rw [t.sh] at this; exact this
  have e2 : snC μ 6 (.sl shRec) (.own j vj o n c y) = some (.sl shRec (w.log.map Rec.enc)) := by
    have := sn_own (s := [.sl shRec]) (c := c) (x := y) h2 r.el (clL_map Rec.cl w.log); rw [r.sh] at this; exact this
  have e3 : ∀ (s : Sh) (k : IntKind) (a : Int), snC μ 6 s (.int k a) = some (.int k a) := fun _ _ _ => rfl
  simp only [sn, onE, zipO, List.headD_cons, List.tail_cons, e1, e2, e3, Option.bind_some, Option.map_some]
  rfl
theorem resVG {ν : PH} {i vi j vj o n c c' : Nat} {x y : Bool} {bi bj : PB} {w : Vol} (h1 : bk ν i vi = some bi) (t : IsT bi w.base) (h16 : w.base.length = 16) (h2 : bk ν j vj = some bj) (hij : i ≠ j) (r : IsR bj o n w.log) :
    onS tkC ν shVol (.agg [.own i vi 0 16 c' x, .int .i64 w.folded, .own j vj o n c y, .int .i64 w.sure]) = some (w.enc, kl (kl ν i) j) := by
  have ha : (bi.el.drop 0).take 16 = w.base.map DV.str := by rw [t.el, List.drop_zero]; exact List.take_of_length_le (by rw [List.length_map]; omega)
  have t1 := tk_own (s := .sl [.sc]) (c := c') (x := x) h1 t.wh t.op ha (txt_cl w.base)
  have t2 := tk_own (s := .sl shRec) (c := c) (x := y) (by rw [kl_ne hij]; exact h2) r.wh r.op r.el (clL_map Rec.cl w.log)
  rw [t.sh] at t1; rw [r.sh] at t2
  have t3 : ∀ (μ : PH) (s : Sh) (k : IntKind) (a : Int), tkC μ s (.int k a) = some (.int k a, μ) := fun _ _ _ _ => rfl
  simp only [onS, zipS, List.headD_cons, List.tail_cons, t1, t2, t3, Option.bind_some, Option.map_some]
  rfl
def vM (v : Vol) : PH := [tB 0 v.base, rB v.log]
abbrev vO (v : Vol) : DV := .agg [.own 0 0 0 16 16 false, .int .i64 v.folded, .own 1 0 0 v.log.length v.log.length false, .int .i64 v.sure]
theorem run1_mvV {core : List DV → PH → RD} {v w : Vol} {a : DV} {ν : PH} {i vi j vj o n c c' : Nat} {x y b : Bool} {bi bj : PB} (h16 : v.base.length = 16) (ha : Pv.cl a = true)
    (hc : core [vO v, a] (vM v) = some ([.agg [.own i vi 0 16 c' x, .int .i64 w.folded, .own j vj o n c y, .int .i64 w.sure], .bool b], ν))
    (h1 : bk ν i vi = some bi) (t : IsT bi w.base) (h16' : w.base.length = 16) (h2 : bk ν j vj = some bj) (hij : i ≠ j) (r : IsR bj o n w.log) :
    run1 S_spec_l6Do core [v.enc, a] = some ([w.enc, .bool b], []) := by
  have he : enter S_spec_l6Do.ps [v.enc, a] [] = some ([vO v, a], vM v) := by
    simp only [enter, S_spec_l6Do, Vol.enc, cellsD_agg, List.all_cons, List.all_nil, okC, isSc, isSl, Bool.or_true, Bool.or_false, Bool.true_or, Bool.and_self, if_true, adV, unfL, Option.bind_some]
    simp [vO, vM, h16, Q.tB, Q.rB]
  unfold run1
  simp only [he, Option.bind_some, hc]
  have := resVG (c := c) (c' := c') (x := x) (y := y) h1 t h16' h2 hij r
  simp only [S_spec_l6Do, resO, this, Option.bind_some]
  rfl
theorem a4_rec {α : Type} (r : Rec) (k : DV → DV → DV → DV → Option α) : a4 r.enc k = k (.int .i64 r.kind) (.int .i64 r.loc) (.int .i64 r.long) (.str r.data) := rfl
theorem flatR (r : Rec) : flat (.agg [.int .i64 r.kind, .int .i64 r.loc, .int .i64 r.long, .str r.data]) = true := rfl
theorem bsR (μ : PH) (a b c : Int) (s : ByteArray) : qBS μ true [.sc, .sc, .sc, .sc] true [.int .i64 0, .int .i64 0, .int .i64 0, .str ⟨#[]⟩] 4 1 [(0, .agg [.int .i64 a, .int .i64 b, .int .i64 c, .str s])] = some (.sl shRec [.agg [.int .i64 a, .int .i64 b, .int .i64 c, .str s]], μ) := rfl

theorem fold_loop {N n : Nat} (hN : 4294967296 ≤ N) (v : Vol) (h : VOk v) (y0 y1 y2 y3 : DV) (bs m : Nat) (hm : m ≤ v.log.length) :
    iterD (P_spec_l6Do.l0 N (qfn P N (n + 1)) bs) N [.own 1 0 0 m v.log.length false, .int .i64 (m : Nat), .int .i64 0, .own 0 0 0 16 16 false, .int .i64 v.folded, .own 1 0 0 v.log.length v.log.length false, .int .i64 (m : Nat), y0, y1, y2, y3] (vM v) =
      some ([.agg [.own 0 0 0 16 16 false, .int .i64 (markL v.folded (v.log.take m)), .own 1 0 m (v.log.length - m) (v.log.length - m) false, .int .i64 0], .bool true], [tB 0 (foldR (v.log.take m) v.base), rB v.log]) := by
  have hlen := h.l
  refine Eq.trans (by simp [vM]) (loop_acc (F := P_spec_l6Do.l0 N (qfn P N (n + 1)) bs) (N := N) (σ := List ByteArray × Int) (len := m)
    (fun i s => ([.own 1 0 0 m v.log.length false, .int .i64 (m : Nat), .int .i64 (i : Nat), .own 0 0 0 16 16 false, .int .i64 s.2, .own 1 0 0 v.log.length v.log.length false, .int .i64 (m : Nat), y0, y1, y2, y3] : List DV))
    (fun i s => [tB 0 s.1, rB v.log]) (fun _ s => s.1.length = 16)
    (fun i s => some ([.agg [.own 0 0 0 16 16 false, .int .i64 (markL s.2 ((v.log.take m).drop i)), .own 1 0 m (v.log.length - m) (v.log.length - m) false, .int .i64 0], .bool true], [tB 0 (foldR ((v.log.take m).drop i) s.1), rB v.log]))
    ?_ ?_ m (i := 0) (s := (v.base, v.folded)) h.b (by omega) (by omega))
  · intro i s rec hi hs
    have hil : i < v.log.length := by omega
    have hb : bk [tB 0 s.1, rB v.log] 1 0 = some (rB v.log) := rfl
    have hb0 : bk [tB 0 s.1, rB v.log] 0 0 = some (tB 0 s.1) := rfl
    have hx : (v.log.take m).drop i = v.log[i] :: (v.log.take m).drop (i + 1) := by
      rw [List.drop_eq_getElem_cons (by rw [List.length_take]; omega)]; simp
    have hd := l3Do_G (n := n) hN hb0 hs (all_get h.g hil)
    have he : (rB v.log).el[i]? = some v.log[i].enc := by simp [rB, hil]
    have hld : qLd [tB 0 s.1, rB v.log] 4 true (.ptr 1 0 i 0) = some (v.log[i].enc, [tB 0 s.1, rB v.log]) := qLd_ok hb he rfl rfl
    refine .inl ⟨(doN v.log[i] s.1 v.log[i].long.toNat, if v.log[i].kind = 3 then v.log[i].loc else s.2), by rw [doN_len]; exact hs, ?_, by rw [hx]; rfl⟩
    unfold P_spec_l6Do.l0
    simp only [u11_list, bd_some, qBin_lss, qB_bool, Int.ofNat_lt, hi, decide_true, cond_true, qIA_own (size := 4) hb rfl hi (show (rB v.log).sh.length = 4 from rfl), Nat.zero_add, hld, b2_some]
    unfold Rec.enc at hd ⊢
    simp only [a4_agg, hd, c0_some, qBin_eql, bd_some, qB_bool, qBin_add, s1_int]
    rw [wrapI (n := (i : Int) + 1) (by constructor <;> omega)]
    by_cases hk : v.log[i].kind = 3
    · simp only [hk, decide_true, cond_true, if_true]; rfl
    · simp only [hk, decide_false, cond_false, if_false]; rfl
  · intro s rec _
    have hb : bk [tB 0 s.1, rB v.log] 1 0 = some (rB v.log) := rfl
    unfold P_spec_l6Do.l0
    have hd : (v.log.take m).drop m = [] := List.drop_eq_nil_of_le (by rw [List.length_take]; omega)
    have hsl := qSl_lo (x := false) (o := 0) (n := v.log.length) (c := v.log.length) (z := 4) (kk := .i64) (k := (m : Int)) hb rfl (by omega) (by omega)
    simp only [u11_list, bd_some, qBin_lss, qB_bool, Int.lt_irrefl, decide_false, cond_false, hsl, hd, s1_own, a4_agg, Int.toNat_natCast, Nat.zero_add]
    rfl

theorem l6Do_run {N n : Nat} (hN : 4294967296 ≤ N) (v : Vol) (o : VOp) (h : VOk v) : run1 S_spec_l6Do (qfn P N (n + 5) n_spec_l6Do) [v.enc, o.enc] = some ([(doV v o).1.enc, .bool (doV v o).2], []) := by
  have hM1 : bk (vM v) 0 0 = some (tB 0 v.base) := rfl
  have hM2 : bk (vM v) 1 0 = some (rB v.log) := rfl
  have h16 := h.b
  have h40 := h.l
  have hmk := markL_in v.log v.folded h.g h.f0 h.f1
  have hs0 := h.s0
  have hs1 := h.s1
  have stay : qfn P N (n + 5) n_spec_l6Do [vO v, o.enc] (vM v) = some ([vO v, .bool false], vM v) → run1 S_spec_l6Do (qfn P N (n + 5) n_spec_l6Do) [v.enc, o.enc] = some ([v.enc, .bool false], []) := fun hc =>
    run1_mvV h16 (VOp.cl o) hc hM1 (IsT.tB 0 v.base) h16 hM2 (by decide) (IsR.rB v.log)
  have hrf := cq_recForS (N := N) (n := n) o (vM v)
  have hmark := l6Mark_ok (n := n + 3) hN v (by omega) (μ := vM v) (args := [vO v]) (by
    simp only [sns, S_spec_l6Mark]
    have := snVG (μ := vM v) (c := v.log.length) (c' := 16) (x := false) (y := false) hM1 (IsT.tB 0 v.base) h16 hM2 (IsR.rB v.log)
    rw [this]; rfl)
  have hlen : qLen (vM v) (.own 1 0 0 v.log.length v.log.length false) = some (.int .i64 v.log.length) := qLen_own hM2
  rw [spec_l6Do_eq] at stay
  unfold VOp.enc at hrf
  unfold doV
  by_cases hk : 1 ≤ o.kind ∧ o.kind ≤ 3
  · have hkb : (decide (1 ≤ o.kind) && decide (o.kind ≤ 3)) = true := by simp [hk]
    rw [if_pos hk]
    cases h1 : (recFor o).2 with
    | false =>
      rw [if_neg (by simp)]
      refine stay ?_
      unfold P_spec_l6Do VOp.enc
      simp only [a4_agg, a5_agg, l1In_ok, c1_some, u1_list, qB_bool, hkb, cond_true, hrf, c2_some, u2_list, a4_rec, h1, qUn_not, Bool.not_false, bd_some]
    | true =>
      obtain ⟨e1, e2⟩ := recFor_ok h1
      have e3 : (recFor o).1 = recOf o := by rw [e1]
      by_cases h2 : v.log.length = 40
      · rw [if_neg (by simp [h2])]
        refine stay ?_
        unfold P_spec_l6Do VOp.enc
        have h2i : ((v.log.length : Nat) : Int) = 40 := by omega
        simp only [a4_agg, a5_agg, l1In_ok, c1_some, u1_list, qB_bool, hkb, cond_true, hrf, c2_some, u2_list, a4_rec, h1, qUn_not, Bool.not_true, bd_some, cond_false, hlen, qBin_eql, h2i, decide_true]
      · have h2' : ¬ ((v.log.length : Int) = 40) := by omega
        have hup := qAp_up1 (μ := vM v) (id := 1) (ver := 0) (o := 0) (n := v.log.length) (c := v.log.length) (by_ := 40) (z := 4) (sh := shRec) (e := .agg [.int .i64 (recOf o).kind, .int .i64 (recOf o).loc, .int .i64 (recOf o).long, .str (recOf o).data]) hM2 rfl rfl rfl rfl rfl (by omega) (by decide) (by omega) (by omega)
        have go : ∀ (hcore : P_spec_l6Do N (qfn P N (n + 4)) (vM v).length (vO v) o.enc (vM v) = some ([.agg [.own 0 0 0 16 16 false, .int .i64 v.folded, .own 1 1 0 (v.log.length + 1) (v.log.length + 1) false, .int .i64 v.sure], .bool true], (vM v).set 1 ⟨0 + 1, (rB v.log).sh, ((rB v.log).el.drop 0).take v.log.length ++ [(recOf o).enc], true, false, true⟩)),
            run1 S_spec_l6Do (qfn P N (n + 5) n_spec_l6Do) [v.enc, o.enc] = some ([Vol.enc { v with log := v.log ++ [recOf o] }, .bool true], []) := fun hcore => by
          rw [← spec_l6Do_eq] at hcore
          refine run1_mvV (w := { v with log := v.log ++ [recOf o] }) h16 (VOp.cl o) hcore rfl (IsT.tB 0 v.base) h16 (bj := ⟨0 + 1, (rB v.log).sh, ((rB v.log).el.drop 0).take v.log.length ++ [(recOf o).enc], true, false, true⟩) rfl (by decide) ⟨rfl, rfl, rfl, ?_⟩
          have he := (IsR.rB v.log).el
          show ((((rB v.log).el.drop 0).take v.log.length ++ [(recOf o).enc]).drop 0).take (v.log.length + 1) = (v.log ++ [recOf o]).map Rec.enc
          rw [he, List.drop_zero, List.map_append]
          exact List.take_of_length_le (by simp)
        by_cases h3 : o.kind = 3
        · have d3 : decide (o.kind = 3) = true := decide_eq_true h3
          by_cases h4 : o.loc = markL v.folded v.log + 1
          · rw [if_pos ⟨rfl, h2, fun _ => h4⟩]
            refine go ?_
            unfold P_spec_l6Do VOp.enc
            simp only [a4_agg, a5_agg, l1In_ok, c1_some, u1_list, qB_bool, hkb, cond_true, hrf, c2_some, u2_list, a4_rec, h1, e3, qUn_not, Bool.not_true, bd_some, cond_false, hlen, qBin_eql, h2', decide_false, d3, hmark, qBin_add]
            rw [wrapI (n := markL v.folded v.log + 1) (by constructor <;> omega)]
            simp only [qBin_neq, h4, ne_eq, not_true_eq_false, decide_false, qB_bool, bd_some, cond_false, bsR, b2_some]
            rw [hup]
            rfl
          · rw [if_neg (by simp [h3, h4])]
            refine stay ?_
            unfold P_spec_l6Do VOp.enc
            simp only [a4_agg, a5_agg, l1In_ok, c1_some, u1_list, qB_bool, hkb, cond_true, hrf, c2_some, u2_list, a4_rec, h1, e3, qUn_not, Bool.not_true, bd_some, cond_false, hlen, qBin_eql, h2', decide_false, d3, hmark, qBin_add]
            rw [wrapI (n := markL v.folded v.log + 1) (by constructor <;> omega)]
            simp only [qBin_neq, h4, ne_eq, not_false_eq_true, decide_true, qB_bool, bd_some, cond_true]
        · rw [if_pos ⟨rfl, h2, fun h => absurd h h3⟩]
          refine go ?_
          unfold P_spec_l6Do VOp.enc
          simp only [a4_agg, a5_agg, l1In_ok, c1_some, u1_list, qB_bool, hkb, cond_true, hrf, c2_some, u2_list, a4_rec, h1, e3, qUn_not, Bool.not_true, bd_some, cond_false, hlen, qBin_eql, h2', decide_false, h3, bsR, b2_some]
          rw [hup]
          rfl
  · have hkb : (decide (1 ≤ o.kind) && decide (o.kind ≤ 3)) = false := by
      by_cases g1 : 1 ≤ o.kind <;> by_cases g2 : o.kind ≤ 3 <;> simp [g1, g2]
      exact hk ⟨g1, g2⟩
    rw [if_neg hk]
    have flush : ∀ (hcore : P_spec_l6Do N (qfn P N (n + 4)) (vM v).length (vO v) o.enc (vM v) = some ([.agg [.own 0 0 0 16 16 false, .int .i64 v.folded, .own 1 0 0 v.log.length v.log.length false, .int .i64 v.log.length], .bool true], vM v)),
        run1 S_spec_l6Do (qfn P N (n + 5) n_spec_l6Do) [v.enc, o.enc] = some ([Vol.enc { v with sure := v.log.length }, .bool true], []) := fun hcore => by
      rw [← spec_l6Do_eq] at hcore
      exact run1_mvV (w := { v with sure := v.log.length }) h16 (VOp.cl o) hcore hM1 (IsT.tB 0 v.base) h16 hM2 (by decide) (IsR.rB v.log)
    have fold : ∀ (hcore : P_spec_l6Do N (qfn P N (n + 4)) (vM v).length (vO v) o.enc (vM v) = some ([.agg [.own 0 0 0 16 16 false, .int .i64 (markL v.folded (v.log.take v.sure.toNat)), .own 1 0 v.sure.toNat (v.log.length - v.sure.toNat) (v.log.length - v.sure.toNat) false, .int .i64 0], .bool true], [tB 0 (foldR (v.log.take v.sure.toNat) v.base), rB v.log])),
        run1 S_spec_l6Do (qfn P N (n + 5) n_spec_l6Do) [v.enc, o.enc] = some ([(foldV v).enc, .bool true], []) := fun hcore => by
      rw [← spec_l6Do_eq] at hcore
      refine run1_mvV (w := foldV v) h16 (VOp.cl o) hcore rfl (IsT.tB 0 _) (by show (foldR _ _).length = 16; rw [foldR_len]; exact h16) (bj := rB v.log) rfl (by decide) ⟨rfl, rfl, rfl, ?_⟩
      simp only [rB, foldV, List.map_drop]
      exact List.take_of_length_le (by simp)
    by_cases hz : zero5 o
    · obtain ⟨z1, z2, z3⟩ := hz
      by_cases h5 : o.kind = 5
      · have nz : ¬ (¬ zero5 o ∨ (o.kind ≠ 5 ∧ o.keep ≠ 0)) := by simp [zero5, z1, z2, z3, h5]
        have dn5 : decide (¬ o.kind = 5) = false := by simp [h5]
        have d5 : decide (o.kind = 5) = true := by simp [h5]
        have d4 : decide (o.kind = 4) = false := by simp [h5]
        have d6 : decide (o.kind = 6) = false := by simp [h5]
        rw [if_neg nz, if_neg (by omega), if_pos h5]
        by_cases hc : v.sure ≤ o.keep ∧ o.keep ≤ v.log.length
        · have hcb : (decide (v.sure ≤ o.keep) && decide (o.keep ≤ v.log.length)) = true := by simp [hc]
          rw [if_pos hc]
          have hcore : P_spec_l6Do N (qfn P N (n + 4)) (vM v).length (vO v) o.enc (vM v) = some ([.agg [.own 0 0 0 16 16 false, .int .i64 v.folded, .own 1 0 0 o.keep.toNat v.log.length false, .int .i64 o.keep], .bool true], vM v) := by
            have hsl := qSl_hi (n := v.log.length) (c := v.log.length) (x := false) (z := 4) (kk := .i64) (o := 0) (k := o.keep) hM2 rfl (by omega) (by omega) (Nat.le_refl _)
            unfold P_spec_l6Do VOp.enc
            simp only [a4_agg, a5_agg, l1In_ok, c1_some, u1_list, qB_bool, hkb, cond_false, qBin_neq, qBin_sneq, qBin_eql, bd_some, z1, z2, z3, hlen, hcb, ne_eq, dn5, d5, d4, not_true_eq_false, decide_false, decide_true, cond_true, hsl, s1_own, s1_int]
          rw [← spec_l6Do_eq] at hcore
          refine run1_mvV (w := { v with log := v.log.take o.keep.toNat, sure := o.keep }) h16 (VOp.cl o) hcore hM1 (IsT.tB 0 v.base) h16 hM2 (by decide) ⟨rfl, rfl, rfl, ?_⟩
          simp only [rB, List.drop_zero, List.map_take]
        · have hcb : (decide (v.sure ≤ o.keep) && decide (o.keep ≤ v.log.length)) = false := by
            by_cases g1 : v.sure ≤ o.keep <;> by_cases g2 : o.keep ≤ v.log.length <;> simp [g1, g2]
            exact hc ⟨g1, g2⟩
          rw [if_neg hc]
          refine stay ?_
          unfold P_spec_l6Do VOp.enc
          simp only [a4_agg, a5_agg, l1In_ok, c1_some, u1_list, qB_bool, hkb, cond_false, qBin_neq, qBin_sneq, qBin_eql, bd_some, z1, z2, z3, hlen, hcb, ne_eq, dn5, d5, d4, d6, not_true_eq_false, decide_false, decide_true, cond_true]
      · by_cases hq : o.keep = 0
        · have nz : ¬ (¬ zero5 o ∨ (o.kind ≠ 5 ∧ o.keep ≠ 0)) := by simp [zero5, z1, z2, z3, hq]
          rw [if_neg nz]
          by_cases h4 : o.kind = 4
          · rw [if_pos h4]
            refine flush ?_
            unfold P_spec_l6Do VOp.enc
            simp only [a4_agg, a5_agg, l1In_ok, c1_some, u1_list, qB_bool, hkb, cond_false, qBin_neq, qBin_sneq, qBin_eql, bd_some, z1, z2, z3, decide_eq_true h4, h5, hq, hlen, ne_eq, not_true_eq_false, decide_false, decide_true, cond_true, not_false_eq_true, s1_int]
          · rw [if_neg h4, if_neg h5]
            by_cases h6 : o.kind = 6
            · rw [if_pos h6]
              refine fold ?_
              have hfl := fold_loop (n := n + 3) hN v h .nil (.int .i64 0) .nil (.int .i64 0) (vM v).length v.sure.toNat (by omega)
              rw [show ((v.sure.toNat : Nat) : Int) = v.sure by omega] at hfl
              have hsl := qSl_hi (c := v.log.length) (x := false) (z := 4) (kk := .i64) (o := 0) (k := v.sure) hM2 rfl (by omega) (by omega) (Nat.le_refl _)
              have hln : qLen (vM v) (.own 1 0 0 v.sure.toNat v.log.length false) = some (.int .i64 v.sure) := by rw [qLen_own hM2]; rw [show ((v.sure.toNat : Nat) : Int) = v.sure by omega]
              unfold P_spec_l6Do VOp.enc
              simp only [a4_agg, a5_agg, l1In_ok, c1_some, u1_list, qB_bool, hkb, cond_false, qBin_neq, qBin_sneq, qBin_eql, bd_some, z1, z2, z3, decide_eq_true h6, h4, h5, hq, ne_eq, not_true_eq_false, decide_false, decide_true, cond_true, not_false_eq_true, hsl, hln]
              exact hfl
            · rw [if_neg h6]
              refine stay ?_
              unfold P_spec_l6Do VOp.enc
              simp only [a4_agg, a5_agg, l1In_ok, c1_some, u1_list, qB_bool, hkb, cond_false, qBin_neq, qBin_sneq, qBin_eql, bd_some, z1, z2, z3, h4, h5, h6, hq, ne_eq, not_true_eq_false, decide_false, decide_true, cond_true, not_false_eq_true]
        · rw [if_pos (.inr ⟨h5, hq⟩)]
          refine stay ?_
          unfold P_spec_l6Do VOp.enc
          simp only [a4_agg, a5_agg, l1In_ok, c1_some, u1_list, qB_bool, hkb, cond_false, qBin_neq, qBin_sneq, qBin_eql, bd_some, z1, z2, z3, h5, hq, ne_eq, not_true_eq_false, decide_false, decide_true, cond_true, not_false_eq_true]
    · rw [if_pos (.inl hz)]
      refine stay ?_
      unfold zero5 at hz
      unfold P_spec_l6Do VOp.enc
      simp only [a4_agg, a5_agg, l1In_ok, c1_some, u1_list, qB_bool, hkb, cond_false, qBin_neq, qBin_sneq, bd_some]
      by_cases z1 : o.loc = 0
      · by_cases z2 : o.long = 0
        · have z3 : ¬ o.data = ⟨#[]⟩ := fun h => hz ⟨z1, z2, h⟩
          simp only [z1, z2, z3, ne_eq, not_true_eq_false, decide_false, cond_false, not_false_eq_true, decide_true, cond_true]
        · simp only [z1, z2, ne_eq, not_true_eq_false, decide_false, cond_false, not_false_eq_true, decide_true, cond_true]
      · simp only [z1, ne_eq, not_false_eq_true, decide_true, cond_true]
end Go.Lg.Pv.Q
namespace Go.Lg.Pv.Q
open Go Go.Lg Go.Lg.Pv
set_option linter.unusedVariables false
set_option linter.unusedSimpArgs false
set_option maxRecDepth 100000

abbrev vOi (i : Nat) (v : Vol) : DV := .agg [.own i 0 0 16 16 false, .int .i64 v.folded, .own (i + 1) 0 0 v.log.length v.log.length false, .int .i64 v.sure]
theorem adL_vol (μ : PH) (v : Vol) (h16 : v.base.length = 16) (r : List DV) : adL true μ (v.enc :: r) = (vOi μ.length v :: (adL true (μ ++ [tB 0 v.base, rB v.log]) r).1, (adL true (μ ++ [tB 0 v.base, rB v.log]) r).2) := by
  simp [adL, adV, unfL, Vol.enc, h16, tB, rB]
theorem snVi {μ : PH} {i : Nat} {v : Vol} (h16 : v.base.length = 16) (hi : bk μ i 0 = some (tB 0 v.base)) (hj : bk μ (i + 1) 0 = some (rB v.log)) : sn μ shVol (vOi i v) = some v.enc :=
  snVG hi (IsT.tB 0 v.base) h16 hj (IsR.rB v.log)
theorem resVi {ν : PH} {i : Nat} {v : Vol} (h16 : v.base.length = 16) (hi : bk ν i 0 = some (tB 0 v.base)) (hj : bk ν (i + 1) 0 = some (rB v.log)) : onS tkC ν shVol (vOi i v) = some (v.enc, kl (kl ν i) (i + 1)) :=
  resVG hi (IsT.tB 0 v.base) h16 hj (by omega) (IsR.rB v.log)
theorem qAp_recs {μ : PH} {l : List Rec} (h0 : 0 < l.length) (h1 : l.length ≤ 1048576) : qAp μ false [.sc, .sc, .sc, .sc] 4 40 (.e0 4) (.sl shRec (l.map Rec.enc)) = some (.own μ.length l.length 0 l.length l.length false, μ ++ [⟨l.length, shRec, l.map Rec.enc, true, false, true⟩]) := by
  have := qAp_listM (μ := μ) (sh := shRec) (z := 4) (by_ := 40) (l := l.map Rec.enc) rfl (by simpa using h0) (flatL_map flat_rec l) (by rw [List.length_map]; omega) (by decide) (by rw [List.length_map]; omega)
  rw [List.length_map] at this; exact this
theorem l6Own_run {N n : Nat} (v : Vol) (h16 : v.base.length = 16) (h40 : v.log.length ≤ 1048576) : run1 S_spec_l6Own (qfn P N (n + 1) n_spec_l6Own) [v.enc] = some ([v.enc], []) := by
  have hb : qBS [] false [.sc] false [.str ⟨#[]⟩] 1 0 [] = some (.e0 1, []) := rfl
  have ha := qAp_txt (l := v.base) (by omega) (by omega)
  rw [h16] at ha
  have hb2 : qBS [tB 16 v.base] false [.sc, .sc, .sc, .sc] true [.int .i64 0, .int .i64 0, .int .i64 0, .str ⟨#[]⟩] 4 0 [] = some (.e0 4, [tB 16 v.base]) := rfl
  have hi : bk [tB 16 v.base] 0 16 = some (tB 16 v.base) := rfl
  by_cases hl : v.log = []
  · refine run1_of rfl rfl rfl (r := [.agg [.own 0 16 0 16 16 false, .int .i64 v.folded, .e0 4, .int .i64 v.sure]]) (ν := [tB 16 v.base]) (ν' := kl [tB 16 v.base] 0) ?_ ?_
    · rw [spec_l6Own_eq]
      unfold P_spec_l6Own Vol.enc
      have he := qAp_e0 (μ := [tB 16 v.base]) (sh := shRec) (sh' := shRec) (z := 4) (by_ := 40) rfl rfl
      simp only [a4_agg, hb, b2_some, ha, s1_own, hb2, hl, List.map_nil, he]
      rfl
    · have t1 := tk_own (s := .sl [.sc]) (c := 16) (x := false) hi rfl rfl (own_all (b := tB 16 v.base) (l := v.base.map DV.str) (n := 16) rfl (by simp [h16])) (txt_cl v.base)
      have t3 : ∀ (μ : PH) (s : Sh) (k : IntKind) (a : Int), tkC μ s (.int k a) = some (.int k a, μ) := fun _ _ _ _ => rfl
      have t4 : ∀ (μ : PH), tkC μ (.sl shRec) (.e0 4) = some (.sl shRec [], μ) := fun _ => rfl
      simp only [resO, S_spec_l6Own, onS, zipS, List.headD_cons, List.tail_cons, t1, t3, t4, Option.bind_some, Option.map_some]
      unfold Vol.enc
      rw [hl]; rfl
  · have h0 : 0 < v.log.length := List.length_pos_iff.2 hl
    have hr := qAp_recs (μ := [tB 16 v.base]) h0 h40
    refine run1_of rfl rfl rfl (r := [.agg [.own 0 16 0 16 16 false, .int .i64 v.folded, .own 1 v.log.length 0 v.log.length v.log.length false, .int .i64 v.sure]]) (ν := [tB 16 v.base, ⟨v.log.length, shRec, v.log.map Rec.enc, true, false, true⟩]) (ν' := kl (kl [tB 16 v.base, ⟨v.log.length, shRec, v.log.map Rec.enc, true, false, true⟩] 0) 1) ?_ ?_
    · rw [spec_l6Own_eq]
      unfold P_spec_l6Own Vol.enc
      simp only [a4_agg, hb, b2_some, ha, s1_own, hb2, hr]
      rfl
    · have hj : bk [tB 16 v.base, ⟨v.log.length, shRec, v.log.map Rec.enc, true, false, true⟩] 1 v.log.length = some ⟨v.log.length, shRec, v.log.map Rec.enc, true, false, true⟩ := by simp [bk]
      have := resVG (ν := [tB 16 v.base, ⟨v.log.length, shRec, v.log.map Rec.enc, true, false, true⟩]) (i := 0) (vi := 16) (j := 1) (c' := 16) (n := v.log.length) (c := v.log.length) (x := false) (y := false) (o := 0) (w := v) rfl (IsT.tB 16 v.base) h16 hj (by decide) ⟨rfl, rfl, rfl, by rw [List.drop_zero]; exact List.take_of_length_le (by simp)⟩
      simp only [resO, S_spec_l6Own, this, Option.bind_some]
theorem cq_l6Own {N n : Nat} (v : Vol) (h16 : v.base.length = 16) (h40 : v.log.length ≤ 1048576) {μ : PH} {args : List DV} (hs : sns μ S_spec_l6Own.ps args = some [v.enc]) :
    cq S_spec_l6Own (qfn P N (n + 1) n_spec_l6Own) args μ = some ([vOi μ.length v], μ ++ [tB 0 v.base, rB v.log]) := by
  rw [cq_sn rfl hs (l6Own_run v h16 h40) rfl, adL_vol _ _ h16]; rfl
theorem cq_own {N n : Nat} (v : Vol) (h16 : v.base.length = 16) (h40 : v.log.length ≤ 1048576) {μ : PH} {args : List DV} (hs : sns μ S_impl_Volume_own.ps args = some [v.enc]) :
    cq S_impl_Volume_own (qfn P N (n + 2) n_impl_Volume_own) args μ = some ([vOi μ.length v], μ ++ [tB 0 v.base, rB v.log]) := by
  rw [cq_sn rfl hs (ownI v (by omega) h40) rfl, adL_vol _ _ h16]; rfl
theorem cq_l6Do {N n : Nat} (hN : 4294967296 ≤ N) (v : Vol) (o : VOp) (h : VOk v) {μ : PH} {i : Nat} (hi : bk μ i 0 = some (tB 0 v.base)) (hj : bk μ (i + 1) 0 = some (rB v.log)) :
    cq S_spec_l6Do (qfn P N (n + 5) n_spec_l6Do) [vOi i v, o.enc] μ = some ([vOi μ.length (doV v o).1, .bool (doV v o).2], kl (kl μ i) (i + 1) ++ [tB 0 (doV v o).1.base, rB (doV v o).1.log]) := by
  have hp : pack1 S_spec_l6Do.ps [vOi i v, o.enc] μ = some ([some v.enc, none], kl (kl μ i) (i + 1)) := by
    simp only [pack1, S_spec_l6Do, resVi h.b hi hj, Option.bind_some]
  have hq : pack2 (cond S_spec_l6Do.fresh (kl (kl μ i) (i + 1)) []) S_spec_l6Do.ps [vOi i v, o.enc] [some v.enc, none] = some [v.enc, o.enc] := by
    have := sn_cl (kl (kl μ i) (i + 1)) [.sc, .sc, .sc, .sc, .sc] (VOp.cl o)
    unfold sn at this
    simp only [pack2, S_spec_l6Do, cond_true, this, Option.bind_some]
  have hw := doV_ok h o
  unfold cq nC
  simp only [hp, Option.bind_some, hq, l6Do_run (n := n) hN v o h]
  have ha := adL_vol (kl (kl μ i) (i + 1)) (doV v o).1 hw.b [.bool (doV v o).2]
  rw [show (kl (kl μ i) (i + 1)).length = μ.length by rw [kl_len, kl_len]] at ha
  have hf : S_spec_l6Do.fresh = true := rfl
  simp only [hf, true_or, if_true]
  rw [ha]
  exact if_pos (fun _ => rfl)
def vol0 : Vol := ⟨[], 0, [], 0⟩
def outD (v : Vol) (o : VOp) : Vol × Bool := if goodV v = true then (if (doV v o).2 = true then ((doV v o).1, true) else (vol0, false)) else (vol0, false)
theorem bVol0 : qBuild [.nil, .int .i64 0, .nil, .int .i64 0] [(0, 1, false), (1, 1, false), (2, 1, false), (3, 1, false)] [] = some (.agg [.nil, .int .i64 0, .nil, .int .i64 0]) := rfl
theorem res0 (ν : PH) : resO [shVol, [.sc]] [.agg [.nil, .int .i64 0, .nil, .int .i64 0], .bool false] ν = some ([vol0.enc, .bool false], ν) := rfl
def aB (cs : List DV) : PB := ⟨0, shVol, [.agg cs], true, false, true⟩
theorem alV (μ : PH) : qAl μ false [.sl [.sc], .sc, .sl [.sc, .sc, .sc, .sc], .sc] true [.nil, .int .i64 0, .nil, .int .i64 0] = some (.ptr μ.length 0 0 0, μ ++ [aB [.sl [.sc] [], .int .i64 0, .sl shRec [], .int .i64 0]]) := rfl
theorem stV {μ : PH} {id i ii io in_ ic j jj jo jn jc : Nat} {f s : Int} {cs : List DV} (hb : bk μ id 0 = some (aB cs)) (hc : cs.length = 4) : qSt μ 4 (.ptr id 0 0 0) (.agg [.own i ii io in_ ic false, .int .i64 f, .own j jj jo jn jc false, .int .i64 s]) = some (μ.set id (aB [.own i ii io in_ ic false, .int .i64 f, .own j jj jo jn jc false, .int .i64 s])) := by
  rw [qSt_ptr (size := 4) (cs := [.own i ii io in_ ic false, .int .i64 f, .own j jj jo jn jc false, .int .i64 s]) hb (e := .agg cs) rfl rfl (by rw [cellsD_agg, hc]; decide) rfl]
  match cs, hc with
  | [a, b, c, d], _ => rfl
theorem doS {N n : Nat} (hN : 4294967296 ≤ N) (v : Vol) (o : VOp) (h1 : v.base.length ≤ 1048576) (h2 : v.log.length ≤ 1048576) :
    run1 S_spec_DoVolume (qfn P N (n + 8) n_spec_DoVolume) [v.enc, o.enc] = some ([(outD v o).1.enc, .bool (outD v o).2], []) := by
  have hgd := goodVS (n := n) hN v h1 h2 []
  unfold Vol.enc at hgd
  unfold outD
  by_cases hg : goodV v = true
  · have h := goodV_ok hg
    have hw := doV_ok h o
    rw [if_pos hg]
    have hl := h.l
    have hwl := hw.l
    have e1 := cq_l6Own (N := N) (n := n + 6) v h.b (by omega) (μ := [aB [.sl [.sc] [], .int .i64 0, .sl shRec [], .int .i64 0]]) (args := [v.enc]) (by simp only [sns, S_spec_l6Own, sn_cl _ _ (Vol.cl v), Option.bind_some])
    have e2 := cq_l6Do (N := N) (n := n + 2) hN v o h (μ := [aB [.sl [.sc] [], .int .i64 0, .sl shRec [], .int .i64 0], tB 0 v.base, rB v.log]) (i := 1) rfl rfl
    generalize hp : doV v o = p at hw hwl e2 ⊢
    generalize hM : kl (kl [aB [.sl [.sc] [], .int .i64 0, .sl shRec [], .int .i64 0], tB 0 v.base, rB v.log] 1) (1 + 1) ++ [tB 0 p.1.base, rB p.1.log] = M at e2
    have hb : bk M 0 0 = some (aB [.sl [.sc] [], .int .i64 0, .sl shRec [], .int .i64 0]) := by subst hM; rfl
    have e3 := stV (i := 3) (ii := 0) (io := 0) (in_ := 16) (ic := 16) (j := 4) (jj := 0) (jo := 0) (jn := p.1.log.length) (jc := p.1.log.length) (f := p.1.folded) (s := p.1.sure) hb rfl
    unfold Vol.enc at e1
    unfold VOp.enc at e2
    have e4 : (bk (M.set 0 (aB [.own 3 0 0 16 16 false, .int .i64 p.1.folded, .own 4 0 0 p.1.log.length p.1.log.length false, .int .i64 p.1.sure])) 0 0 = some (aB [.own 3 0 0 16 16 false, .int .i64 p.1.folded, .own 4 0 0 p.1.log.length p.1.log.length false, .int .i64 p.1.sure])) := by subst hM; rfl
    have g3 : bk (M.set 0 (aB [.own 3 0 0 16 16 false, .int .i64 p.1.folded, .own 4 0 0 p.1.log.length p.1.log.length false, .int .i64 p.1.sure])) 3 0 = some (tB 0 p.1.base) := by subst hM; rfl
    have g4 : bk (M.set 0 (aB [.own 3 0 0 16 16 false, .int .i64 p.1.folded, .own 4 0 0 p.1.log.length p.1.log.length false, .int .i64 p.1.sure])) 4 0 = some (rB p.1.log) := by subst hM; rfl
    have g5 : (M.set 0 (aB [.own 3 0 0 16 16 false, .int .i64 p.1.folded, .own 4 0 0 p.1.log.length p.1.log.length false, .int .i64 p.1.sure])).length = 5 := by subst hM; rfl
    have e5 := qLd_ok (size := 4) (agg := true) (v := vOi 3 p.1) e4 (i := 0) (off := 0) rfl rfl rfl
    have e6 := cq_l6Own (N := N) (n := n + 6) p.1 hw.b (by omega) (μ := M.set 0 (aB [.own 3 0 0 16 16 false, .int .i64 p.1.folded, .own 4 0 0 p.1.log.length p.1.log.length false, .int .i64 p.1.sure])) (args := [vOi 3 p.1]) (by simp only [sns, S_spec_l6Own, snVi hw.b g3 g4, Option.bind_some])
    generalize hM2 : M.set 0 (aB [.own 3 0 0 16 16 false, .int .i64 p.1.folded, .own 4 0 0 p.1.log.length p.1.log.length false, .int .i64 p.1.sure]) = M2 at e3 e5 e6 g5
    cases h5 : p.2 with
    | false =>
      refine run1_of rfl rfl rfl (r := [.agg [.nil, .int .i64 0, .nil, .int .i64 0], .bool false]) (ν := M2) ?_ (res0 _)
      rw [spec_DoVolume_eq]
      unfold P_spec_DoVolume Vol.enc VOp.enc
      simp only [a4_agg, a5_agg, hgd, c1_some, u1_list, qUn_not, bd_some, qB_bool, hg, Bool.not_true, cond_false, alV, List.length_nil, List.nil_append, b2_some, e1, List.length_cons, List.cons_append, Nat.zero_add, e2, c2_some, u2_list, Nat.reduceAdd, e3, h5, Bool.not_false, cond_true, bVol0]
    | true =>
      refine run1_of rfl rfl rfl (r := [vOi 5 p.1, .bool true]) (ν := M2 ++ [tB 0 p.1.base, rB p.1.log]) (ν' := kl (kl (M2 ++ [tB 0 p.1.base, rB p.1.log]) 5) 6) ?_ ?_
      · rw [spec_DoVolume_eq]
        unfold P_spec_DoVolume Vol.enc VOp.enc
        rw [g5] at e6
        simp only [a4_agg, a5_agg, hgd, c1_some, u1_list, qUn_not, bd_some, qB_bool, hg, Bool.not_true, cond_false, alV, List.length_nil, List.nil_append, b2_some, e1, List.length_cons, List.cons_append, Nat.zero_add, e2, c2_some, u2_list, Nat.reduceAdd, e3, h5, e5, e6]
      · have t := resVi (ν := M2 ++ [tB 0 p.1.base, rB p.1.log]) (i := 5) (v := p.1) hw.b (by simp [bk, g5, tB]) (by simp [bk, g5, rB])
        simp only [resO, S_spec_DoVolume, t, Option.bind_some]
        rfl
  · rw [if_neg hg]
    refine run1_of rfl rfl rfl (r := [.agg [.nil, .int .i64 0, .nil, .int .i64 0], .bool false]) (ν := []) ?_ (res0 _)
    rw [spec_DoVolume_eq]
    unfold P_spec_DoVolume Vol.enc VOp.enc
    simp only [a4_agg, a5_agg, hgd, c1_some, u1_list, qUn_not, bd_some, qB_bool, hg, Bool.not_false, cond_true, bVol0]
end Go.Lg.Pv.Q
namespace Go.Lg.Pv.Q
open Go Go.Lg Go.Lg.Pv
set_option linter.unusedVariables false
set_option linter.unusedSimpArgs false
set_option maxRecDepth 100000

/-- a volume at a pointer, with blocks of its own -/
structure VA (μ : PH) (p ib il : Nat) (v : Vol) (vl o n c : Nat) (bj : PB) : Prop where
  st : bk μ p 0 = some (aB [.own ib 0 0 16 16 false, .int .i64 v.folded, .own il vl o n c false, .int .i64 v.sure])
  tb : bk μ ib 0 = some (tB 0 v.base)
  lb : bk μ il vl = some bj
  isr : IsR bj o n v.log
  len : o + n ≤ bj.el.length
  nc : n ≤ c
  d1 : ib ≠ il
  d2 : ib ≠ p
  d3 : il ≠ p
/-- but for these, memory is as it was -/
structure Fr (μ μ' : PH) (p ib il : Nat) : Prop where
  len : μ'.length = μ.length
  eq : ∀ k, k ≠ p → k ≠ ib → k ≠ il → μ'[k]? = μ[k]?
theorem Fr.refl (μ : PH) (p ib il : Nat) : Fr μ μ p ib il := ⟨rfl, fun _ _ _ _ => rfl⟩
theorem Fr.set {μ μ' : PH} {p ib il k : Nat} {b : PB} (h : Fr μ μ' p ib il) (hk : k = p ∨ k = ib ∨ k = il) : Fr μ (μ'.set k b) p ib il :=
  ⟨by rw [List.length_set]; exact h.len, fun j h1 h2 h3 => by rw [List.getElem?_set_ne (by rcases hk with rfl | rfl | rfl <;> exact fun h => by subst h; contradiction)]; exact h.eq j h1 h2 h3⟩
theorem st2 {μ : PH} {p : Nat} {a b c d x : DV} (hb : bk μ p 0 = some (aB [a, b, c, d])) (hx : cellsD x = [x]) (hn : nzL [.sl shRec, .sc] [x] = [x]) (ho : okC x = true) : qSt μ 1 (.ptr p 0 0 2) x = some (μ.set p (aB [a, b, x, d])) := by
  have := qSt_ptr (size := 1) (off := 2) (i := 0) (v := x) (e := .agg [a, b, c, d]) (cs := [x]) hb rfl (by rw [hx]; rfl) (by rw [cellsD_agg]; simp) (by
    rw [hx]
    show putC false [.sl shRec, .sc] [x] = some [x]
    simp only [putC, cond_false, List.all_cons, List.all_nil, ho, Bool.and_self, if_true, hn])
  rw [this]; rfl
theorem st3 {μ : PH} {p : Nat} {a b c d : DV} {k : Int} (hb : bk μ p 0 = some (aB [a, b, c, d])) : qSt μ 1 (.ptr p 0 0 3) (.int .i64 k) = some (μ.set p (aB [a, b, c, .int .i64 k])) := by
  rw [qSt_ptr (size := 1) (off := 3) (i := 0) (v := .int .i64 k) (e := .agg [a, b, c, d]) (cs := [.int .i64 k]) hb rfl rfl (by rw [cellsD_agg]; simp) rfl]; rfl
theorem st1 {μ : PH} {p : Nat} {a b c d : DV} {k : Int} (hb : bk μ p 0 = some (aB [a, b, c, d])) : qSt μ 1 (.ptr p 0 0 1) (.int .i64 k) = some (μ.set p (aB [a, .int .i64 k, c, d])) := by
  rw [qSt_ptr (size := 1) (off := 1) (i := 0) (v := .int .i64 k) (e := .agg [a, b, c, d]) (cs := [.int .i64 k]) hb rfl rfl (by rw [cellsD_agg]; simp) rfl]; rfl
theorem bk_aB {μ : PH} {p : Nat} {a b : List DV} (h : bk μ p 0 = some (aB a)) : bk (μ.set p (aB b)) p 0 = some (aB b) := bk_set (μ := μ) (b := aB b) (bk_lt h) rfl
theorem ld0 {μ : PH} {p : Nat} {a b c d : DV} (hb : bk μ p 0 = some (aB [a, b, c, d])) (ho : okC a = true) : qLd μ 1 false (.ptr p 0 0 0) = some (a, μ) := qLd_ok hb (e := .agg [a, b, c, d]) rfl (by simp [ho]) rfl
theorem ld1 {μ : PH} {p : Nat} {a b c d : DV} (hb : bk μ p 0 = some (aB [a, b, c, d])) (ho : okC b = true) : qLd μ 1 false (.ptr p 0 0 1) = some (b, μ) := qLd_ok hb (e := .agg [a, b, c, d]) rfl (by simp [ho]) rfl
theorem ld2 {μ : PH} {p : Nat} {a b c d : DV} (hb : bk μ p 0 = some (aB [a, b, c, d])) (ho : okC c = true) : qLd μ 1 false (.ptr p 0 0 2) = some (c, μ) := qLd_ok hb (e := .agg [a, b, c, d]) rfl (by simp [ho]) rfl
theorem ld3 {μ : PH} {p : Nat} {a b c d : DV} (hb : bk μ p 0 = some (aB [a, b, c, d])) (ho : okC d = true) : qLd μ 1 false (.ptr p 0 0 3) = some (d, μ) := qLd_ok hb (e := .agg [a, b, c, d]) rfl (by simp [ho]) rfl
theorem ldA {μ : PH} {p : Nat} {a b c d : DV} (hb : bk μ p 0 = some (aB [a, b, c, d])) (h1 : okC a = true) (h2 : okC b = true) (h3 : okC c = true) (h4 : okC d = true) : qLd μ 4 true (.ptr p 0 0 0) = some (.agg [a, b, c, d], μ) := qLd_ok hb (e := .agg [a, b, c, d]) rfl (by simp [h1, h2, h3, h4]) rfl
theorem ek5 (k a b : Int) (s : ByteArray) : qEqS [1, 1, 1, 2, 1] .neq (.agg [.int .i64 k, .int .i64 a, .int .i64 b, .str s, .int .i64 0]) (.agg [.int .i64 k, .int .i64 0, .int .i64 0, .str ⟨#[]⟩, .int .i64 0]) = some (.bool (!(decide (a = 0) && decide (b = 0) && decide (s = ⟨#[]⟩)))) := by
  have ei : ∀ a b : Int, eqCell 1 (.int .i64 a) (.int .i64 b) = some (decide (a = b)) := fun a b => by simp [eqCell]; rfl
  have es : ∀ s t : ByteArray, eqCell 2 (.string s) (.string t) = some (decide (s = t)) := fun s t => by
    simp only [eqCell, Option.some.injEq]
    rw [Bool.eq_iff_iff]; simp only [beq_iff_eq, toList_inj, decide_eq_true_eq]
  by_cases h1 : a = 0 <;> by_cases h2 : b = 0 <;> by_cases h3 : s = ⟨#[]⟩ <;> simp [qEqS, toVs, toV, pEqS, eqCells, ei, es, h1, h2, h3, ofV]

variable {N n : Nat} (hN : 4294967296 ≤ N) {μ : PH} {p ib il vl o_ m c : Nat} {bj : PB} {v : Vol} (o : VOp)
/-- a volume with a longer log -/
theorem VA.push {μ : PH} {p ib il vl o m c : Nat} {bj : PB} {v : Vol} (hv : VA μ p ib il v vl o m c bj) (h40 : v.log.length ≤ 40) (r : Rec) :
    ∃ x μ1 μ2, qAp μ false [.sc, .sc, .sc, .sc] 4 40 (.own il vl o m c false) (.sl [.sc, .sc, .sc, .sc] [.agg [.int .i64 r.kind, .int .i64 r.loc, .int .i64 r.long, .str r.data]]) = some (x, μ1) ∧ bk μ1 p 0 = bk μ p 0 ∧ qSt μ1 1 (.ptr p 0 0 2) x = some μ2 ∧
      (∃ vl' o' m' c' bj', VA μ2 p ib il { v with log := v.log ++ [r] } vl' o' m' c' bj') ∧ Fr μ μ2 p ib il := by
  have hm := hv.isr.len hv.len
  have h1 := hv.isr
  have hlen := hv.len
  by_cases hc : m + 1 ≤ c
  · have ha := qAp_in1 (o := o) (by_ := 40) (z := 4) (x := false) (sh := shRec) (e := r.enc) hv.lb (by rw [h1.sh]; rfl) rfl h1.op rfl hc
    have hp : bk (μ.set il { bj with el := overD bj.el (o + m) [r.enc] }) p 0 = bk μ p 0 := bk_set_ne hv.d3
    have hs := st2 (x := .own il vl o (m + 1) c false) (hp.trans hv.st) rfl rfl rfl
    refine ⟨_, _, _, ha, hp, hs, ⟨vl, o, m + 1, c, { bj with el := overD bj.el (o + m) [r.enc] }, ?_⟩, ((Fr.refl μ p ib il).set (.inr (.inr rfl))).set (.inl rfl)⟩
    have hb' : bk (μ.set il { bj with el := overD bj.el (o + m) [r.enc] }) il vl = some { bj with el := overD bj.el (o + m) [r.enc] } := bk_el hv.lb _
    refine ⟨bk_aB (hp.trans hv.st), ?_, ?_, ⟨h1.sh, h1.op, h1.wh, ?_⟩, ?_, hc, hv.d1, hv.d2, hv.d3⟩
    · rw [bk_set_ne hv.d2.symm, bk_set_ne hv.d1.symm]; exact hv.tb
    · rw [bk_set_ne hv.d3.symm]; exact hb'
    · have he := h1.el
      show ((overD bj.el (o + m) [r.enc]).drop o).take (m + 1) = (v.log ++ [r]).map Rec.enc
      rw [List.map_append, ← he]
      unfold overD
      rw [List.append_assoc, List.drop_append_of_le_length (by rw [List.length_take]; omega), List.drop_take, show o + m - o = m by omega]
      rw [List.take_append, List.take_of_length_le (by rw [List.length_take, List.length_drop]; omega)]
      rw [List.length_take, List.length_drop, show m + 1 - min m (bj.el.length - o) = 1 by omega]
      simp
    · show o + (m + 1) ≤ (overD bj.el (o + m) [r.enc]).length
      unfold overD
      simp only [List.length_append, List.length_take, List.length_cons, List.length_nil, List.length_drop]
      omega
  · have ha := qAp_up1 (o := o) (by_ := 40) (z := 4) (sh := shRec) (e := r.enc) hv.lb (by rw [h1.sh]; rfl) rfl h1.op h1.wh rfl hc (by decide) (by omega) (by omega)
    have hp : bk (μ.set il ⟨vl + 1, bj.sh, (bj.el.drop o).take m ++ [r.enc], true, false, true⟩) p 0 = bk μ p 0 := bk_set_ne hv.d3
    have hs := st2 (x := .own il (vl + 1) 0 (m + 1) (m + 1) false) (hp.trans hv.st) rfl rfl rfl
    refine ⟨_, _, _, ha, hp, hs, ⟨vl + 1, 0, m + 1, m + 1, ⟨vl + 1, bj.sh, (bj.el.drop o).take m ++ [r.enc], true, false, true⟩, ?_⟩, ((Fr.refl μ p ib il).set (.inr (.inr rfl))).set (.inl rfl)⟩
    have hb' : bk (μ.set il ⟨vl + 1, bj.sh, (bj.el.drop o).take m ++ [r.enc], true, false, true⟩) il (vl + 1) = some ⟨vl + 1, bj.sh, (bj.el.drop o).take m ++ [r.enc], true, false, true⟩ :=
      bk_set (b := ⟨vl + 1, bj.sh, (bj.el.drop o).take m ++ [r.enc], true, false, true⟩) (bk_lt hv.lb) rfl
    have hL : ((bj.el.drop o).take m).length = m := by rw [List.length_take, List.length_drop]; omega
    refine ⟨bk_aB (hp.trans hv.st), ?_, ?_, ⟨h1.sh, rfl, rfl, ?_⟩, ?_, Nat.le_refl _, hv.d1, hv.d2, hv.d3⟩
    · rw [bk_set_ne hv.d2.symm, bk_set_ne hv.d1.symm]; exact hv.tb
    · rw [bk_set_ne hv.d3.symm]; exact hb'
    · show (((bj.el.drop o).take m ++ [r.enc]).drop 0).take (m + 1) = (v.log ++ [r]).map Rec.enc
      rw [List.drop_zero, List.map_append, ← h1.el]
      exact List.take_of_length_le (by rw [List.length_append, hL]; simp)
    · show 0 + (m + 1) ≤ ((bj.el.drop o).take m ++ [r.enc]).length
      rw [List.length_append, hL]; simp
include hN
theorem put_ok (h : VOk v) (hv : VA μ p ib il v vl o_ m c bj) (hk : 1 ≤ o.kind ∧ o.kind ≤ 3) :
    ∃ μ', qfn P N (n + 4) n_impl_Volume_put [.ptr p 0 0 0, o.enc] μ = some ([.bool (doV v o).2], μ') ∧ (∃ vl' o' m' c' bj', VA μ' p ib il (doV v o).1 vl' o' m' c' bj') ∧ Fr μ μ' p ib il := by
  have hm := hv.isr.len hv.len
  have h40 := h.l
  have hmk := markL_in v.log v.folded h.g h.f0 h.f1
  have hrf := cq_recForI (N := N) (n := n) o μ
  unfold VOp.enc at hrf
  have hlen : qLen μ (.own il vl o_ m c false) = some (.int .i64 v.log.length) := by rw [qLen_own hv.lb, hm]
  have hsn := snVG (c := c) (c' := 16) (x := false) (y := false) hv.tb (IsT.tB 0 v.base) h.b hv.lb hv.isr
  have hmark := markI_ok (n := n + 1) hN v (by omega) (μ := μ) (args := [.agg [.own ib 0 0 16 16 false, .int .i64 v.folded, .own il vl o_ m c false, .int .i64 v.sure]]) (by
    simp only [sns, S_impl_Volume_mark]; rw [hsn]; rfl)
  rw [impl_Volume_put_eq]
  have stay : P_impl_Volume_put N (qfn P N (n + 3)) μ.length (.ptr p 0 0 0) o.enc μ = some ([.bool false], μ) → doV v o = (v, false) → ∃ μ', P_impl_Volume_put N (qfn P N (n + 3)) μ.length (.ptr p 0 0 0) o.enc μ = some ([.bool (doV v o).2], μ') ∧ (∃ vl' o' m' c' bj', VA μ' p ib il (doV v o).1 vl' o' m' c' bj') ∧ Fr μ μ' p ib il := fun h1 h2 => by
    rw [h2]; exact ⟨μ, h1, ⟨vl, o_, m, c, bj, hv⟩, Fr.refl _ _ _ _⟩
  cases h1 : (recFor o).2 with
  | false =>
    refine stay ?_ (by unfold doV; rw [if_pos hk, if_neg (by simp [h1])])
    unfold P_impl_Volume_put VOp.enc
    simp only [a5_agg, hrf, c2_some, u2_list, a4_rec, h1, qUn_not, Bool.not_false, bd_some, qB_bool, cond_true]
  | true =>
    obtain ⟨e1, e2⟩ := recFor_ok h1
    have e3 : (recFor o).1 = recOf o := by rw [e1]
    by_cases h2 : v.log.length = 40
    · refine stay ?_ (by unfold doV; rw [if_pos hk, if_neg (by simp [h2])])
      have h2i : ((v.log.length : Nat) : Int) = 40 := by omega
      unfold P_impl_Volume_put VOp.enc
      simp only [a5_agg, hrf, c2_some, u2_list, a4_rec, h1, qUn_not, Bool.not_true, bd_some, qB_bool, cond_false, qNil_ptr hv.st, qFA_ptr _ hv.st, Nat.zero_add, ld2 hv.st (rfl : okC (.own il vl o_ m c false) = true), b2_some, hlen, qBin_eql, h2i, decide_true, cond_true]
    · have h2i : ¬ (((v.log.length : Nat) : Int) = 40) := by omega
      obtain ⟨x, μ1, μ2, q1, q2, q3, q4, q5⟩ := hv.push h40 (recOf o)
      have hst1 := q2.trans hv.st
      by_cases h3 : o.kind = 3
      · have d3 : decide ((recOf o).kind = 3) = true := decide_eq_true h3
        by_cases h4 : o.loc = markL v.folded v.log + 1
        · have hd : doV v o = ({ v with log := v.log ++ [recOf o] }, true) := by unfold doV; rw [if_pos hk, if_pos ⟨h1, h2, fun _ => h4⟩]
          rw [hd]
          refine ⟨μ2, ?_, q4, q5⟩
          have h4' : (recOf o).loc = markL v.folded v.log + 1 := h4
          unfold P_impl_Volume_put VOp.enc
          simp only [a5_agg, hrf, c2_some, u2_list, a4_rec, h1, e3, qUn_not, Bool.not_true, bd_some, qB_bool, cond_false, qNil_ptr hv.st, qFA_ptr _ hv.st, Nat.zero_add, ld2 hv.st (rfl : okC (.own il vl o_ m c false) = true), b2_some, hlen, qBin_eql, h2i, decide_false, d3, cond_true, ldA hv.st rfl rfl rfl rfl, hmark, c1_some, u1_list, qBin_add]
          rw [wrapI (n := markL v.folded v.log + 1) (by constructor <;> omega)]
          have dn : decide (¬ (recOf o).loc = markL v.folded v.log + 1) = false := by simp [h4']
          simp only [qBin_neq, ne_eq, dn, bd_some, qB_bool, cond_false, b2_some, bsR, q1, qNil_ptr hst1, qFA_ptr _ hst1, Nat.zero_add, q3]
        · refine stay ?_ (by unfold doV; rw [if_pos hk, if_neg (by simp [h3, h4])])
          have h4' : ¬ (recOf o).loc = markL v.folded v.log + 1 := h4
          unfold P_impl_Volume_put VOp.enc
          simp only [a5_agg, hrf, c2_some, u2_list, a4_rec, h1, e3, qUn_not, Bool.not_true, bd_some, qB_bool, cond_false, qNil_ptr hv.st, qFA_ptr _ hv.st, Nat.zero_add, ld2 hv.st (rfl : okC (.own il vl o_ m c false) = true), b2_some, hlen, qBin_eql, h2i, decide_false, d3, cond_true, ldA hv.st rfl rfl rfl rfl, hmark, c1_some, u1_list, qBin_add]
          rw [wrapI (n := markL v.folded v.log + 1) (by constructor <;> omega)]
          simp only [qBin_neq, h4', ne_eq, not_false_eq_true, decide_true, bd_some, qB_bool, cond_true]
      · have d3 : decide ((recOf o).kind = 3) = false := decide_eq_false h3
        have hd : doV v o = ({ v with log := v.log ++ [recOf o] }, true) := by unfold doV; rw [if_pos hk, if_pos ⟨h1, h2, fun h => absurd h h3⟩]
        rw [hd]
        refine ⟨μ2, ?_, q4, q5⟩
        unfold P_impl_Volume_put VOp.enc
        simp only [a5_agg, hrf, c2_some, u2_list, a4_rec, h1, e3, qUn_not, Bool.not_true, bd_some, qB_bool, cond_false, qNil_ptr hv.st, qFA_ptr _ hv.st, Nat.zero_add, ld2 hv.st (rfl : okC (.own il vl o_ m c false) = true), b2_some, hlen, qBin_eql, h2i, decide_false, d3, bsR, q1, qNil_ptr hst1, qFA_ptr _ hst1, q3]
end Go.Lg.Pv.Q
namespace Go.Lg.Pv.Q
open Go Go.Lg Go.Lg.Pv
set_option linter.unusedVariables false
set_option linter.unusedSimpArgs false
set_option maxRecDepth 100000

theorem IsR.at_ {b : PB} {o n : Nat} {l : List Rec} (h : IsR b o n l) (hn : o + n ≤ b.el.length) {i : Nat} (hi : i < l.length) : b.el[o + i]? = some l[i].enc := by
  have hm := h.len hn
  have := congrArg (fun x => x[i]?) h.el
  simp only [List.getElem?_take, List.getElem?_drop, List.getElem?_map] at this
  rw [if_pos (by omega)] at this
  rw [this, List.getElem?_eq_getElem hi]; rfl
theorem qIA_o {μ : PH} {size id ver o n c i : Nat} {x : Bool} {k : IntKind} {b : PB} (h : bk μ id ver = some b) (hi : i < n) (hs : b.sh.length = size) : qIA μ size (.own id ver o n c x) (.int k (i : Nat)) = some (.ptr id ver (o + i) 0) := qIA_own h rfl hi hs
section
variable {N n : Nat} (hN : 4294967296 ≤ N) {μ : PH} {p ib il vl o_ m c : Nat} {bj : PB} {v : Vol} (o : VOp)
include hN
theorem fold_ok (h : VOk v) (hv : VA μ p ib il v vl o_ m c bj) :
    ∃ μ', qfn P N (n + 3) n_impl_Volume_fold [.ptr p 0 0 0] μ = some ([], μ') ∧ (∃ vl' o' m' c' bj', VA μ' p ib il (foldV v) vl' o' m' c' bj') ∧ Fr μ μ' p ib il := by
  have hm := hv.isr.len hv.len
  have h40 := h.l; have hs0 := h.s0; have hs1 := h.s1
  obtain ⟨s, hs⟩ : ∃ s : Nat, v.sure = (s : Int) := ⟨v.sure.toNat, by omega⟩
  have hst := hv.st
  have hsm : s ≤ m := by omega
  have hT : v.log.take v.sure.toNat = v.log.take s := by rw [hs]; rfl
  have hbi := bk_lt hv.tb
  have hbt : ∀ x, bk (μ.set ib (tB 0 x)) ib 0 = some (tB 0 x) := fun x => bk_set (b := tB 0 x) hbi rfl
  have hbp : ∀ x, bk (μ.set ib (tB 0 x)) p 0 = bk μ p 0 := fun x => bk_set_ne hv.d2
  have hbl : ∀ x, bk (μ.set ib (tB 0 x)) il vl = bk μ il vl := fun x => bk_set_ne hv.d1
  generalize hB : foldR (v.log.take s) v.base = B
  have hBl : B.length = 16 := by rw [← hB, foldR_len]; exact h.b
  generalize hF : markL v.folded (v.log.take s) = F
  have last : ∀ (a b : DV), qFA (μ.set ib (tB 0 B)) (.ptr p 0 0 0) 1 = some (.ptr p 0 0 (0 + 1)) := fun _ _ => qFA_ptr _ ((hbp B).trans hv.st)
  have g1 := (hbp B).trans hv.st
  have g2 := bk_aB (b := [.own ib 0 0 16 16 false, .int .i64 F, .own il vl o_ m c false, .int .i64 v.sure]) g1
  have g3 := bk_aB (b := [.own ib 0 0 16 16 false, .int .i64 F, .own il vl (o_ + s) (m - s) (c - s) false, .int .i64 v.sure]) g2
  have t1 := st1 (k := F) g1
  have t2 := st2 (x := .own il vl (o_ + s) (m - s) (c - s) false) g2 rfl rfl rfl
  have t3 := st3 (k := 0) g3
  have hl2 : bk ((μ.set ib (tB 0 B)).set p (aB [.own ib 0 0 16 16 false, .int .i64 F, .own il vl o_ m c false, .int .i64 v.sure])) il vl = some bj := by
    rw [bk_set_ne hv.d3.symm, hbl]; exact hv.lb
  have hsl := qSl_lo (x := false) (o := o_) (n := m) (c := c) (z := 4) (kk := .i64) (k := v.sure) hl2 (by rw [hv.isr.sh]; rfl) (by omega) (by omega)
  have hsN : v.sure.toNat = s := by omega
  rw [hsN] at hsl
  refine ⟨(((μ.set ib (tB 0 B)).set p (aB [.own ib 0 0 16 16 false, .int .i64 F, .own il vl o_ m c false, .int .i64 v.sure])).set p (aB [.own ib 0 0 16 16 false, .int .i64 F, .own il vl (o_ + s) (m - s) (c - s) false, .int .i64 v.sure])).set p (aB [.own ib 0 0 16 16 false, .int .i64 F, .own il vl (o_ + s) (m - s) (c - s) false, .int .i64 0]), ?_, ⟨vl, o_ + s, m - s, c - s, bj, ?_⟩, ((((Fr.refl μ p ib il).set (.inr (.inl rfl))).set (.inl rfl)).set (.inl rfl)).set (.inl rfl)⟩
  · rw [impl_Volume_fold_eq]
    unfold P_impl_Volume_fold
    have hs2 := qSl_hi (x := false) (o := o_) (n := m) (c := c) (z := 4) (kk := .i64) (k := v.sure) hv.lb (by rw [hv.isr.sh]; rfl) (by omega) (by omega) hv.nc
    rw [hsN] at hs2
    have hln : qLen μ (.own il vl o_ s c false) = some (.int .i64 s) := qLen_own hv.lb
    simp only [qNil_ptr hst, bd_some, qFA_ptr _ hst, Nat.zero_add, ld2 hst (rfl : okC (.own il vl o_ m c false) = true), ld3 hst (rfl : okC (.int .i64 v.sure) = true), b2_some, hs2, hln]
    have hself : μ.set ib (tB 0 v.base) = μ := bk_self hv.tb
    conv => lhs; rw [← hself]
    refine Eq.trans (by simp) (loop_acc (F := P_impl_Volume_fold.l0 N (qfn P N (n + 2)) μ.length) (N := N) (σ := List ByteArray) (len := s) (fun i _ => ([.ptr p 0 0 0, .own il vl o_ s c false, .own il vl o_ s c false, .int .i64 (s : Nat), .int .i64 (i : Nat)] : List DV)) (fun i bl => μ.set ib (tB 0 bl)) (fun i bl => bl.length = 16 ∧ foldR ((v.log.take s).drop i) bl = B) (fun i bl => some ([], _))
      ?_ ?_ s (i := 0) (s := v.base) ⟨h.b, hB⟩ (by omega) (by omega))
    · intro i bl rec hi ⟨hb16, hbB⟩
      have hil : i < v.log.length := by omega
      have hx : (v.log.take s).drop i = v.log[i] :: (v.log.take s).drop (i + 1) := by
        rw [List.drop_eq_getElem_cons (by rw [List.length_take]; omega)]; simp
      rw [hx] at hbB
      have hd := do_G (n := n + 1) hN (hbt bl) hb16 (all_get h.g hil)
      refine .inl ⟨doN v.log[i] bl v.log[i].long.toNat, ⟨by rw [doN_len]; exact hb16, hbB⟩, ?_, rfl⟩
      have g1 := (hbp bl).trans hv.st
      have gl := (hbl bl).trans hv.lb
      have hld : qLd (μ.set ib (tB 0 bl)) 4 true (.ptr il vl (o_ + i) 0) = some (v.log[i].enc, μ.set ib (tB 0 bl)) := qLd_ok gl (hv.isr.at_ hv.len hil) rfl rfl
      unfold P_impl_Volume_fold.l0
      simp only [u5_list, bd_some, qBin_lss, qB_bool, Int.ofNat_lt, hi, decide_true, cond_true, qIA_o gl hi (by rw [hv.isr.sh]; rfl : bj.sh.length = 4), hld, b2_some]
      unfold Rec.enc at hd ⊢
      simp only [a4_agg, qNil_ptr g1, qFA_ptr _ g1, Nat.zero_add, ld0 g1 (rfl : okC (.own ib 0 0 16 16 false) = true), b2_some, hd, c0_some, qBin_add, bd_some, List.set_set]
      rw [wrapI (n := (i : Int) + 1) (by constructor <;> omega)]
      rfl
    · intro bl rec ⟨hb16, hbB⟩
      have hz : (v.log.take s).drop s = [] := List.drop_eq_nil_of_le (by rw [List.length_take]; omega)
      rw [hz] at hbB
      have hbB : bl = B := hbB
      subst hbB
      have gl := (hbl bl).trans hv.lb
      have hmk := markOf_ok (n := n + 1) hN v.folded (v.log.take s) (by rw [List.length_take]; omega) (μ := μ.set ib (tB 0 bl)) (args := [.int .i64 v.folded, .own il vl o_ s c false]) (by
        have he : (bj.el.drop o_).take s = (v.log.take s).map Rec.enc := by
          rw [List.map_take, ← hv.isr.el, List.take_take, Nat.min_eq_left hsm]
        have := sn_own (s := [.sl shRec]) (c := c) (x := false) gl he (clL_map Rec.cl _)
        rw [hv.isr.sh] at this
        simp only [sns, S_impl_markOf, snI, Option.bind_some]
        rw [this]; rfl)
      rw [hF] at hmk
      unfold P_impl_Volume_fold.l0
      simp only [u5_list, bd_some, qBin_lss, qB_bool, Int.lt_irrefl, decide_false, cond_false, qNil_ptr g1, qFA_ptr _ g1, Nat.zero_add, ld1 g1 (rfl : okC (.int .i64 v.folded) = true), b2_some, hmk, c1_some, u1_list, t1, qNil_ptr g2, qFA_ptr _ g2, ld2 g2 (rfl : okC (.own il vl o_ m c false) = true), ld3 g2 (rfl : okC (.int .i64 v.sure) = true), hsl, t2, qNil_ptr g3, qFA_ptr _ g3, t3]
  · unfold foldV
    rw [hT, hB, hF]
    refine ⟨bk_aB g3, ?_, ?_, ⟨hv.isr.sh, hv.isr.op, hv.isr.wh, ?_⟩, by have := hv.len; omega, by have := hv.nc; omega, hv.d1, hv.d2, hv.d3⟩
    · rw [bk_set_ne hv.d2.symm, bk_set_ne hv.d2.symm, bk_set_ne hv.d2.symm]; exact hbt B
    · rw [bk_set_ne hv.d3.symm, bk_set_ne hv.d3.symm]; exact hl2
    · show (bj.el.drop (o_ + s)).take (m - s) = (v.log.drop v.sure.toNat).map Rec.enc
      rw [hsN, List.map_drop, ← hv.isr.el, List.drop_take, List.drop_drop]
theorem doI (h : VOk v) (hv : VA μ p ib il v vl o_ m c bj) :
    ∃ μ', qfn P N (n + 5) n_impl_Volume_do [.ptr p 0 0 0, o.enc] μ = some ([.bool (doV v o).2], μ') ∧ (∃ vl' o' m' c' bj', VA μ' p ib il (doV v o).1 vl' o' m' c' bj') ∧ Fr μ μ' p ib il := by
  have hm := hv.isr.len hv.len
  have h40 := h.l; have hs0 := h.s0; have hs1 := h.s1
  have hst := hv.st
  rw [impl_Volume_do_eq]
  have hlen : qLen μ (.own il vl o_ m c false) = some (.int .i64 v.log.length) := by rw [qLen_own hv.lb, hm]
  by_cases hk : 1 ≤ o.kind ∧ o.kind ≤ 3
  · have hkb : (decide (1 ≤ o.kind) && decide (o.kind ≤ 3)) = true := by simp [hk]
    obtain ⟨μ', q1, q2, q3⟩ := put_ok (n := n) hN o h hv hk
    refine ⟨μ', ?_, q2, q3⟩
    unfold VOp.enc at q1 ⊢
    unfold P_impl_Volume_do
    simp only [a5_agg, within_ok, c1_some, u1_list, qB_bool, hkb, cond_true, q1]
  · have hkb : (decide (1 ≤ o.kind) && decide (o.kind ≤ 3)) = false := by
      by_cases g1 : 1 ≤ o.kind <;> by_cases g2 : o.kind ≤ 3 <;> simp [g1, g2]
      exact hk ⟨g1, g2⟩
    have bV : ∀ k : Int, qBuild [.int .i64 0, .int .i64 0, .int .i64 0, .str ⟨#[]⟩, .int .i64 0] [(0, 1, false), (1, 1, false), (2, 1, false), (3, 1, false), (4, 1, false)] [(0, .int .i64 k)] = some (.agg [.int .i64 k, .int .i64 0, .int .i64 0, .str ⟨#[]⟩, .int .i64 0]) := fun _ => rfl
    have stay : P_impl_Volume_do N (qfn P N (n + 4)) μ.length (.ptr p 0 0 0) o.enc μ = some ([.bool false], μ) → doV v o = (v, false) → ∃ μ', P_impl_Volume_do N (qfn P N (n + 4)) μ.length (.ptr p 0 0 0) o.enc μ = some ([.bool (doV v o).2], μ') ∧ (∃ vl' o' m' c' bj', VA μ' p ib il (doV v o).1 vl' o' m' c' bj') ∧ Fr μ μ' p ib il := fun h1 h2 => by
      rw [h2]; exact ⟨μ, h1, ⟨vl, o_, m, c, bj, hv⟩, Fr.refl _ _ _ _⟩
    by_cases hz : zero5 o
    · have hz' := hz
      obtain ⟨z1, z2, z3⟩ := hz'
      have hzb : (!(decide (o.loc = 0) && decide (o.long = 0) && decide (o.data = ⟨#[]⟩))) = false := by simp [z1, z2, z3]
      by_cases h5 : o.kind = 5
      · have dn5 : decide (¬ o.kind = 5) = false := by simp [h5]
        have d5 : decide (o.kind = 5) = true := by simp [h5]
        have d4 : decide (o.kind = 4) = false := by simp [h5]
        have nz : ¬ (¬ zero5 o ∨ (o.kind ≠ 5 ∧ o.keep ≠ 0)) := by simp [hz, h5]
        by_cases hc : v.sure ≤ o.keep ∧ o.keep ≤ v.log.length
        · have hcb : (decide (v.sure ≤ o.keep) && decide (o.keep ≤ v.log.length)) = true := by simp [hc]
          have hd : doV v o = ({ v with log := v.log.take o.keep.toNat, sure := o.keep }, true) := by unfold doV; rw [if_neg hk, if_neg nz, if_neg (by omega), if_pos h5, if_pos hc]
          have hsl := qSl_hi (x := false) (o := o_) (n := m) (c := c) (z := 4) (kk := .i64) (k := o.keep) hv.lb (by rw [hv.isr.sh]; rfl) (by omega) (by omega) hv.nc
          have t2 := st2 (x := .own il vl o_ o.keep.toNat c false) hst rfl rfl rfl
          have g2 := bk_aB (b := [.own ib 0 0 16 16 false, .int .i64 v.folded, .own il vl o_ o.keep.toNat c false, .int .i64 v.sure]) hst
          have t3 := st3 (k := o.keep) g2
          rw [hd]
          refine ⟨_, ?_, ⟨vl, o_, o.keep.toNat, c, bj, ?_⟩, (((Fr.refl μ p ib il).set (b := aB [.own ib 0 0 16 16 false, .int .i64 v.folded, .own il vl o_ o.keep.toNat c false, .int .i64 v.sure]) (.inl rfl)).set (b := aB [.own ib 0 0 16 16 false, .int .i64 v.folded, .own il vl o_ o.keep.toNat c false, .int .i64 o.keep]) (.inl rfl))⟩
          · unfold P_impl_Volume_do VOp.enc
            simp only [a5_agg, within_ok, c1_some, u1_list, qB_bool, hkb, cond_false, bV, bd_some, ek5, hzb, qBin_neq, qBin_eql, ne_eq, dn5, d5, d4, cond_true, qNil_ptr hst, qFA_ptr _ hst, Nat.zero_add, ld2 hst (rfl : okC (.own il vl o_ m c false) = true), ld3 hst (rfl : okC (.int .i64 v.sure) = true), b2_some, hlen, hcb, qUn_not, Bool.not_true, hsl, t2, qNil_ptr g2, qFA_ptr _ g2, t3]
          · refine ⟨bk_aB g2, ?_, ?_, ⟨hv.isr.sh, hv.isr.op, hv.isr.wh, ?_⟩, by have := hv.len; omega, by have := hv.nc; omega, hv.d1, hv.d2, hv.d3⟩
            · rw [bk_set_ne hv.d2.symm, bk_set_ne hv.d2.symm]; exact hv.tb
            · rw [bk_set_ne hv.d3.symm, bk_set_ne hv.d3.symm]; exact hv.lb
            · show (bj.el.drop o_).take o.keep.toNat = (v.log.take o.keep.toNat).map Rec.enc
              rw [List.map_take, ← hv.isr.el, List.take_take, Nat.min_eq_left (by omega)]
        · have hcb : (decide (v.sure ≤ o.keep) && decide (o.keep ≤ v.log.length)) = false := by
            by_cases g1 : v.sure ≤ o.keep <;> by_cases g2 : o.keep ≤ v.log.length <;> simp [g1, g2]
            exact hc ⟨g1, g2⟩
          refine stay ?_ (by unfold doV; rw [if_neg hk, if_neg nz, if_neg (by omega), if_pos h5, if_neg hc])
          unfold P_impl_Volume_do VOp.enc
          simp only [a5_agg, within_ok, c1_some, u1_list, qB_bool, hkb, cond_false, bV, bd_some, ek5, hzb, qBin_neq, qBin_eql, ne_eq, dn5, d5, d4, cond_true, qNil_ptr hst, qFA_ptr _ hst, Nat.zero_add, ld2 hst (rfl : okC (.own il vl o_ m c false) = true), ld3 hst (rfl : okC (.int .i64 v.sure) = true), b2_some, hlen, hcb, qUn_not, Bool.not_false]
      · by_cases hq : o.keep = 0
        · have nz : ¬ (¬ zero5 o ∨ (o.kind ≠ 5 ∧ o.keep ≠ 0)) := by simp [hz, hq]
          by_cases h4 : o.kind = 4
          · have hd : doV v o = ({ v with sure := v.log.length }, true) := by unfold doV; rw [if_neg hk, if_neg nz, if_pos h4]
            have t3 := st3 (k := v.log.length) hst
            rw [hd]
            refine ⟨_, ?_, ⟨vl, o_, m, c, bj, ?_⟩, ((Fr.refl μ p ib il).set (b := aB [.own ib 0 0 16 16 false, .int .i64 v.folded, .own il vl o_ m c false, .int .i64 v.log.length]) (.inl rfl))⟩
            · unfold P_impl_Volume_do VOp.enc
              simp only [a5_agg, within_ok, c1_some, u1_list, qB_bool, hkb, cond_false, bV, bd_some, ek5, hzb, qBin_neq, qBin_eql, ne_eq, h5, not_false_eq_true, decide_true, decide_eq_true h4, hq, not_true_eq_false, decide_false, cond_true, qNil_ptr hst, qFA_ptr _ hst, Nat.zero_add, ld2 hst (rfl : okC (.own il vl o_ m c false) = true), b2_some, hlen, t3]
            · refine ⟨bk_aB hst, ?_, ?_, hv.isr, hv.len, hv.nc, hv.d1, hv.d2, hv.d3⟩
              · rw [bk_set_ne hv.d2.symm]; exact hv.tb
              · rw [bk_set_ne hv.d3.symm]; exact hv.lb
          · by_cases h6 : o.kind = 6
            · have hd : doV v o = (foldV v, true) := by unfold doV; rw [if_neg hk, if_neg nz, if_neg h4, if_neg h5, if_pos h6]
              obtain ⟨μ', q1, q2, q3⟩ := fold_ok (n := n + 1) hN h hv
              rw [hd]
              refine ⟨μ', ?_, q2, q3⟩
              unfold P_impl_Volume_do VOp.enc
              simp only [a5_agg, within_ok, c1_some, u1_list, qB_bool, hkb, cond_false, bV, bd_some, ek5, hzb, qBin_neq, qBin_eql, ne_eq, h5, h4, not_false_eq_true, decide_true, decide_eq_true h6, hq, not_true_eq_false, decide_false, cond_true, q1, c0_some]
              rfl
            · refine stay ?_ (by unfold doV; rw [if_neg hk, if_neg nz, if_neg h4, if_neg h5, if_neg h6])
              unfold P_impl_Volume_do VOp.enc
              simp only [a5_agg, within_ok, c1_some, u1_list, qB_bool, hkb, cond_false, bV, bd_some, ek5, hzb, qBin_neq, qBin_eql, ne_eq, h5, h4, h6, not_false_eq_true, decide_true, hq, not_true_eq_false, decide_false, cond_true]
        · refine stay ?_ (by unfold doV; rw [if_neg hk, if_pos (.inr ⟨h5, hq⟩)])
          unfold P_impl_Volume_do VOp.enc
          simp only [a5_agg, within_ok, c1_some, u1_list, qB_bool, hkb, cond_false, bV, bd_some, ek5, hzb, qBin_neq, qBin_eql, ne_eq, h5, not_false_eq_true, decide_true, hq, cond_true]
    · have hzb : (!(decide (o.loc = 0) && decide (o.long = 0) && decide (o.data = ⟨#[]⟩))) = true := by
        unfold zero5 at hz
        by_cases z1 : o.loc = 0 <;> by_cases z2 : o.long = 0 <;> by_cases z3 : o.data = ⟨#[]⟩ <;> simp [z1, z2, z3]
        exact hz ⟨z1, z2, z3⟩
      refine stay ?_ (by unfold doV; rw [if_neg hk, if_pos (.inl hz)])
      unfold P_impl_Volume_do VOp.enc
      simp only [a5_agg, within_ok, c1_some, u1_list, qB_bool, hkb, cond_false, bV, bd_some, ek5, hzb, cond_true]
end
end Go.Lg.Pv.Q
namespace Go.Lg.Pv.Q
open Go Go.Lg Go.Lg.Pv
set_option linter.unusedVariables false
set_option linter.unusedSimpArgs false
set_option maxRecDepth 100000

theorem bk_ap0 {μ : PH} {b c : PB} (h : b.live = true) (hv : b.ver = 0) : bk (μ ++ [b, c]) μ.length 0 = some b := by simp [bk, h, hv]
theorem bk_ap1 {μ : PH} {b c : PB} (h : c.live = true) (hv : c.ver = 0) : bk (μ ++ [b, c]) (μ.length + 1) 0 = some c := by
  simp [bk, List.getElem?_append, h, hv]
theorem doVI {N n : Nat} (hN : 4294967296 ≤ N) (v : Vol) (o : VOp) (h1 : v.base.length ≤ 1048576) (h2 : v.log.length ≤ 1048576) :
    run1 S_impl_DoVolume (qfn P N (n + 8) n_impl_DoVolume) [v.enc, o.enc] = some ([(outD v o).1.enc, .bool (outD v o).2], []) := by
  have hgd := goodVI (n := n) hN v h1 h2 []
  unfold Vol.enc at hgd
  unfold outD
  by_cases hg : goodV v = true
  · have h := goodV_ok hg
    have hw := doV_ok h o
    rw [if_pos hg]
    have hl := h.l
    have hwl := hw.l
    have e1 := cq_own (N := N) (n := n + 5) v h.b (by omega) (μ := []) (args := [v.enc]) (by simp only [sns, S_impl_Volume_own, sn_cl _ _ (Vol.cl v), Option.bind_some])
    have e3 := stV (μ := [tB 0 v.base, rB v.log, aB [.sl [.sc] [], .int .i64 0, .sl shRec [], .int .i64 0]]) (id := 2) (i := 0) (ii := 0) (io := 0) (in_ := 16) (ic := 16) (j := 1) (jj := 0) (jo := 0) (jn := v.log.length) (jc := v.log.length) (f := v.folded) (s := v.sure) rfl rfl
    have hva : VA [tB 0 v.base, rB v.log, aB [.own 0 0 0 16 16 false, .int .i64 v.folded, .own 1 0 0 v.log.length v.log.length false, .int .i64 v.sure]] 2 0 1 v 0 0 v.log.length v.log.length (rB v.log) :=
      ⟨rfl, rfl, rfl, IsR.rB v.log, by simp [rB], Nat.le_refl _, by decide, by decide, by decide⟩
    obtain ⟨μ', q1, ⟨vl', o', m', c', bj', q2⟩, q3⟩ := doI (n := n + 2) hN o h hva
    generalize hp : doV v o = p at hw hwl q1 q2 ⊢
    have e6 := cq_own (N := N) (n := n + 5) p.1 hw.b (by omega) (μ := μ') (args := [.agg [.own 0 0 0 16 16 false, .int .i64 p.1.folded, .own 1 vl' o' m' c' false, .int .i64 p.1.sure]]) (by
      simp only [sns, S_impl_Volume_own]; rw [snVG q2.tb (IsT.tB 0 p.1.base) hw.b q2.lb q2.isr]; rfl)
    have e5 := ldA q2.st rfl rfl rfl rfl
    have hs3 : ([tB 0 v.base, rB v.log, aB [.sl [.sc] [], .int .i64 0, .sl shRec [], .int .i64 0]].set 2 (aB [.own 0 0 0 16 16 false, .int .i64 v.folded, .own 1 0 0 v.log.length v.log.length false, .int .i64 v.sure])) = [tB 0 v.base, rB v.log, aB [.own 0 0 0 16 16 false, .int .i64 v.folded, .own 1 0 0 v.log.length v.log.length false, .int .i64 v.sure]] := rfl
    rw [hs3] at e3
    unfold Vol.enc at e1
    unfold VOp.enc at q1
    cases h5 : p.2 with
    | false =>
      refine run1_of rfl rfl rfl (r := [.agg [.nil, .int .i64 0, .nil, .int .i64 0], .bool false]) (ν := μ') ?_ (res0 _)
      rw [impl_DoVolume_eq]
      unfold P_impl_DoVolume Vol.enc VOp.enc
      simp only [a4_agg, a5_agg, hgd, c1_some, u1_list, qUn_not, bd_some, qB_bool, hg, Bool.not_true, cond_false, e1, alV, List.length_nil, List.nil_append, b2_some, List.length_cons, List.cons_append, Nat.zero_add, Nat.reduceAdd, e3, q1, h5, Bool.not_false, cond_true, bVol0]
    | true =>
      refine run1_of rfl rfl rfl (r := [vOi μ'.length p.1, .bool true]) (ν := μ' ++ [tB 0 p.1.base, rB p.1.log]) (ν' := kl (kl (μ' ++ [tB 0 p.1.base, rB p.1.log]) μ'.length) (μ'.length + 1)) ?_ ?_
      · rw [impl_DoVolume_eq]
        unfold P_impl_DoVolume Vol.enc VOp.enc
        simp only [a4_agg, a5_agg, hgd, c1_some, u1_list, qUn_not, bd_some, qB_bool, hg, Bool.not_true, cond_false, e1, alV, List.length_nil, List.nil_append, b2_some, List.length_cons, List.cons_append, Nat.zero_add, Nat.reduceAdd, e3, q1, h5, e5, e6]
      · have t := resVi (ν := μ' ++ [tB 0 p.1.base, rB p.1.log]) (i := μ'.length) (v := p.1) hw.b (bk_ap0 rfl rfl) (bk_ap1 rfl rfl)
        simp only [resO, S_impl_DoVolume, t, Option.bind_some]
        rfl
  · rw [if_neg hg]
    refine run1_of rfl rfl rfl (r := [.agg [.nil, .int .i64 0, .nil, .int .i64 0], .bool false]) (ν := []) ?_ (res0 _)
    rw [impl_DoVolume_eq]
    unfold P_impl_DoVolume Vol.enc VOp.enc
    simp only [a4_agg, a5_agg, hgd, c1_some, u1_list, qUn_not, bd_some, qB_bool, hg, Bool.not_false, cond_true, bVol0]
end Go.Lg.Pv.Q
namespace Go.Lg.Pv.Q
open Go Go.Lg Go.Lg.Pv
set_option linter.unusedVariables false
set_option linter.unusedSimpArgs false
set_option maxRecDepth 100000

theorem szRecs_up : ∀ {l : List Rec} {left : Int}, ¬ szRecs l left < 0 → szRecs l left ≤ left
  | [], left, h => by simp [szRecs]
  | r :: l, left, h => by
    simp only [szRecs] at h ⊢
    split at h <;> rename_i h'
    · exact absurd (by decide) h
    · rw [if_neg h']
      have := szRec_le h'
      have := szRecs_up h
      omega
theorem szVol_up {v : Vol} {left : Int} (h : ¬ szVol v left < 0) : szVol v left ≤ left := by
  unfold szVol at h ⊢
  split at h
  · exact absurd (by decide) h
  · rename_i h2
    have := szTexts_le h2
    rw [if_neg h2]
    split at h
    · exact absurd (by decide) h
    · rename_i h3
      rw [if_neg h3]
      unfold szRs at h3 ⊢
      split at h3
      · exact absurd (by decide) h3
      · rename_i h4
        rw [if_neg h4]
        have := szRecs_up h3
        omega
theorem a5_vop {α : Type} (o : VOp) (k : DV → DV → DV → DV → DV → Option α) : a5 o.enc k = k (.int .i64 o.kind) (.int .i64 o.loc) (.int .i64 o.long) (.str o.data) (.int .i64 o.keep) := rfl
theorem fold_vop (o : VOp) : DV.agg [.int .i64 o.kind, .int .i64 o.loc, .int .i64 o.long, .str o.data, .int .i64 o.keep] = o.enc := rfl
theorem outD_len (v : Vol) (o : VOp) : (outD v o).1.base.length ≤ 16 ∧ (outD v o).1.log.length ≤ 40 := by
  unfold outD
  split
  · rename_i h
    have hw := doV_ok (goodV_ok h) o
    split
    · exact ⟨by rw [hw.b]; exact Nat.le_refl _, hw.l⟩
    · exact ⟨by decide, by decide⟩
  · exact ⟨by decide, by decide⟩
theorem stW (w : Vol) {μ : PH} {id i : Nat} {cs : List DV} (hb : bk μ id 0 = some (aB cs)) (hc : cs.length = 4 := by rfl) : qSt μ 4 (.ptr id 0 0 0) (volOwn i w) = some (μ.set id (aB [.own i 0 0 w.base.length w.base.length false, .int .i64 w.folded, .own (i + 1) 0 0 w.log.length w.log.length false, .int .i64 w.sure])) := by
  unfold volOwn
  rw [qSt_ptr (size := 4) (cs := [.own i 0 0 w.base.length w.base.length false, .int .i64 w.folded, .own (i + 1) 0 0 w.log.length w.log.length false, .int .i64 w.sure]) hb (e := .agg cs) rfl rfl (by rw [cellsD_agg, hc]; decide) rfl]
  match cs, hc with
  | [a, b, c, d], _ => rfl
theorem ldW (w : Vol) {μ : PH} {id i : Nat} (hb : bk μ id 0 = some (aB [.own i 0 0 w.base.length w.base.length false, .int .i64 w.folded, .own (i + 1) 0 0 w.log.length w.log.length false, .int .i64 w.sure])) : qLd μ 4 true (.ptr id 0 0 0) = some (volOwn i w, μ) := ldA hb rfl rfl rfl rfl
theorem adL_vb (μ : PH) (w : Vol) (b : Bool) : adL true μ [w.enc, .bool b] = ([volOwn μ.length w, .bool b], μ ++ [tB 0 w.base, rB w.log]) := by simp [adL, adV, unfL, Vol.enc, volOwn, tB, rB]
theorem heldVolume_ok {N n : Nat} (hN : 4294967296 ≤ N) (b l : Nat) (f s : Int) (hb : b ≤ 1048576) (hl : l ≤ 1048576) :
    run1 S_laws_heldVolume (qfn P N (n + 3) n_laws_heldVolume) [Vol.enc ⟨marks 1 b, f, marksR (1 + b) l, s⟩, .int .i64 1] = some ([.int .i64 (1 + b + 4 * l)], []) := by
  refine run1_of (ν := []) rfl rfl rfl (r := [.int .i64 (1 + b + 4 * l)]) ?_ (resO_sc rfl)
  rw [laws_heldVolume_eq]
  unfold P_laws_heldVolume Vol.enc
  simp only [a4_agg]
  rw [cq_sn (args' := [.sl [.sc] ((marks 1 b).map DV.str), .int .i64 1]) rfl (by simp only [sns, S_laws_heldStringS, sn_cl _ _ (txts_cl (marks 1 b)), snI, Option.bind_some]) (heldStringS_ok (n := n) hN b 1 hb (by decide) (by decide)) rfl, adL_sc rfl]
  simp only [c1_some, u1_list, qBin_lss, bd_some, qB_bool, show ¬ ((1 : Int) + b < 0) by omega, decide_false, cond_false]
  rw [cq_heldRec (n := n) hN l (1 + b) hl (by omega) (by omega) (by simp only [sns, S_laws_heldRecordS, sn_cl _ _ (recs_cl (marksR (1 + b) l)), snI, Option.bind_some])]
  simp only [c1_some, u1_list, qBin_lss, bd_some, qB_bool, show ¬ ((1 : Int) + b + 4 * l < 0) by omega, decide_false, cond_false]
section
variable {N n : Nat} (hN : 4294967296 ≤ N)
include hN
theorem Q_heldV (w : Vol) (h1 : w.base.length ≤ 1048576) (h2 : w.log.length ≤ 1048576) {μ : PH} {i : Nat} (hi : bk μ i 0 = some (tB 0 (marks 1 w.base.length))) (hj : bk μ (i + 1) 0 = some (rB (marksR (1 + w.base.length) w.log.length))) :
    cq S_laws_heldVolume (qfn P N (n + 9) n_laws_heldVolume) [volOwn i w, .int .i64 1] μ = some ([.int .i64 (1 + w.base.length + 4 * w.log.length)], μ) := by
  have hs : sn μ shVol (volOwn i w) = some (Vol.enc ⟨marks 1 w.base.length, w.folded, marksR (1 + w.base.length) w.log.length, w.sure⟩) := by
    have := snV (v := ⟨marks 1 w.base.length, w.folded, marksR (1 + w.base.length) w.log.length, w.sure⟩) hi hj
    unfold volOwn at this ⊢
    rw [marks_len, marksR_len] at this
    exact this
  rw [cq_sn rfl (by simp only [sns, S_laws_heldVolume, hs, snI, Option.bind_some]) (heldVolume_ok (n := n + 6) hN w.base.length w.log.length w.folded w.sure h1 h2) rfl, adL_sc rfl]
omit hN in
theorem Q_toO (o : VOp) (μ : PH) : cq S_laws_toVolOp (qfn P N (n + 9) n_laws_toVolOp) [o.enc] μ = some ([o.enc], μ) := by
  rw [cq_sn (args' := [o.enc]) rfl (by simp only [sns, S_laws_toVolOp, sn_cl _ _ (VOp.cl o), Option.bind_some]) (toVolOp_ok o) rfl]; rfl
theorem Q_doS (v : Vol) (o : VOp) (h1 : v.base.length ≤ 1048576) (h2 : v.log.length ≤ 1048576) {μ : PH} {i : Nat} (hi : bk μ i 0 = some (tB 0 v.base)) (hj : bk μ (i + 1) 0 = some (rB v.log)) : cq S_spec_DoVolume (qfn P N (n + 9) n_spec_DoVolume) [volOwn i v, o.enc] μ = some ([volOwn μ.length (outD v o).1, .bool (outD v o).2], μ ++ [tB 0 (outD v o).1.base, rB (outD v o).1.log]) := by
  rw [cq_sn rfl (by simp only [sns, S_spec_DoVolume, snV hi hj, sn_cl _ _ (VOp.cl o), Option.bind_some]) (doS (n := n + 1) hN v o h1 h2) rfl, adL_vb]
theorem Q_doI (v : Vol) (o : VOp) (h1 : v.base.length ≤ 1048576) (h2 : v.log.length ≤ 1048576) {μ : PH} {i : Nat} (hi : bk μ i 0 = some (tB 0 v.base)) (hj : bk μ (i + 1) 0 = some (rB v.log)) : cq S_impl_DoVolume (qfn P N (n + 9) n_impl_DoVolume) [volOwn i v, o.enc] μ = some ([volOwn μ.length (outD v o).1, .bool (outD v o).2], μ ++ [tB 0 (outD v o).1.base, rB (outD v o).1.log]) := by
  rw [cq_sn rfl (by simp only [sns, S_impl_DoVolume, snV hi hj, sn_cl _ _ (VOp.cl o), Option.bind_some]) (doVI (n := n + 1) hN v o h1 h2) rfl, adL_vb]
theorem law_do (v : Vol) (hv : v.ok) (o : VOp) (ho : o.ok) : ∃ μ', qfn P N (n + 10) n_laws_FnExactDoVolume [v.enc, o.enc] [] = some ([.bool true], μ') := by
  rw [laws_FnExactDoVolume_eq]
  unfold P_laws_FnExactDoVolume
  simp only [a4_vol, fold_vol, a5_vop, fold_vop]
  rw [cq_sn (args' := [v.enc, .int .i64 1048576]) rfl (by simp only [sns, S_laws_szVolume, sn_cl _ _ (Vol.cl v), snI, Option.bind_some]) (szVolume_ok (n := n + 6) hN v hv 1048576 (by decide) (by decide)) rfl, adL_sc rfl]
  simp only [c1_some, u1_list, qBin_lss, bd_some, qB_bool]
  by_cases hneg : szVol v 1048576 < 0
  · exact ⟨_, by simp only [hneg, decide_true, cond_true]; rfl⟩
  obtain ⟨h1, h2⟩ := szVol_le (by decide) hneg
  have hup := szVol_up hneg
  simp only [hneg, decide_false, cond_false]
  generalize szVol v 1048576 = left at hneg hup
  rw [cq_sn (args' := [o.enc, .int .i64 left]) rfl (by simp only [sns, S_laws_szVolOp, sn_cl _ _ (VOp.cl o), snI, Option.bind_some]) (szVolOp_ok (n := n + 8) o left (by omega) hup ho) rfl, adL_sc rfl]
  simp only [c1_some, u1_list, qBin_lss, bd_some, qB_bool]
  by_cases hneg2 : szVOp o left < 0
  · exact ⟨_, by simp only [hneg2, decide_true, cond_true]; rfl⟩
  simp only [hneg2, decide_false, cond_false]
  have hw := outD_len v o
  generalize hO : outD v o = w at hw
  have b1 : w.1.base.length ≤ 1048576 := by omega
  have b2 : w.1.log.length ≤ 1048576 := by omega
  have hk1 : ¬ ((1 : Int) + v.base.length + 4 * v.log.length < 0) := by omega
  have hk2 : ¬ ((1 : Int) + w.1.base.length + 4 * w.1.log.length < 0) := by omega
  simp only [c1_some, u1_list, c2_some, u2_list, b2_some, bd_some, List.length_cons, List.length_nil, List.cons_append, List.nil_append, Nat.zero_add, Nat.reduceAdd, List.set_cons_succ, List.set_cons_zero, a4_vol, fold_vol, a5_vop, fold_vop, alV]
  rw [Q_toV hN v h1 h2]
  simp only [c1_some, u1_list, c2_some, u2_list, b2_some, bd_some, List.length_cons, List.length_nil, List.cons_append, List.nil_append, Nat.zero_add, Nat.reduceAdd, List.set_cons_succ, List.set_cons_zero]
  rw [Q_toO o]
  simp only [c1_some, u1_list, c2_some, u2_list, b2_some, bd_some, List.length_cons, List.length_nil, List.cons_append, List.nil_append, Nat.zero_add, Nat.reduceAdd, List.set_cons_succ, List.set_cons_zero]
  rw [Q_doS hN v o h1 h2 rfl rfl, hO]
  simp only [c1_some, u1_list, c2_some, u2_list, b2_some, bd_some, List.length_cons, List.length_nil, List.cons_append, List.nil_append, Nat.zero_add, Nat.reduceAdd, List.set_cons_succ, List.set_cons_zero]
  rw [stW w.1 (i := 3) rfl]
  simp only [c1_some, u1_list, c2_some, u2_list, b2_some, bd_some, List.length_cons, List.length_nil, List.cons_append, List.nil_append, Nat.zero_add, Nat.reduceAdd, List.set_cons_succ, List.set_cons_zero]
  rw [Q_toV hN v h1 h2]
  simp only [c1_some, u1_list, c2_some, u2_list, b2_some, bd_some, List.length_cons, List.length_nil, List.cons_append, List.nil_append, Nat.zero_add, Nat.reduceAdd, List.set_cons_succ, List.set_cons_zero, a4_own, alV]
  rw [Q_toO o]
  simp only [c1_some, u1_list, c2_some, u2_list, b2_some, bd_some, List.length_cons, List.length_nil, List.cons_append, List.nil_append, Nat.zero_add, Nat.reduceAdd, List.set_cons_succ, List.set_cons_zero, fold_own]
  rw [Q_doI hN v o h1 h2 rfl rfl, hO]
  simp only [c1_some, u1_list, c2_some, u2_list, b2_some, bd_some, List.length_cons, List.length_nil, List.cons_append, List.nil_append, Nat.zero_add, Nat.reduceAdd, List.set_cons_succ, List.set_cons_zero]
  rw [stW w.1 (i := 8) rfl]
  simp only [c1_some, u1_list, c2_some, u2_list, b2_some, bd_some, List.length_cons, List.length_nil, List.cons_append, List.nil_append, Nat.zero_add, Nat.reduceAdd, List.set_cons_succ, List.set_cons_zero]
  rw [ldW w.1 (i := 8) rfl]
  simp only [c1_some, u1_list, c2_some, u2_list, b2_some, bd_some, List.length_cons, List.length_nil, List.cons_append, List.nil_append, Nat.zero_add, Nat.reduceAdd, List.set_cons_succ, List.set_cons_zero]
  rw [ldW w.1 (i := 3) rfl]
  simp only [c1_some, u1_list, c2_some, u2_list, b2_some, bd_some, List.length_cons, List.length_nil, List.cons_append, List.nil_append, Nat.zero_add, Nat.reduceAdd, List.set_cons_succ, List.set_cons_zero]
  rw [Q_eqV hN w.1 b1 b2 rfl rfl rfl rfl]
  simp only [c1_some, u1_list, c2_some, u2_list, b2_some, bd_some, List.length_cons, List.length_nil, List.cons_append, List.nil_append, Nat.zero_add, Nat.reduceAdd, List.set_cons_succ, List.set_cons_zero, qUn_not, qBin_lss, qBin_neq, qBin_bne, qB_bool, Bool.not_true, cond_false, decide_false, beq_self_eq_true, ne_eq, not_true_eq_false]
  rw [Q_toV hN v h1 h2]
  simp only [c1_some, u1_list, c2_some, u2_list, b2_some, bd_some, List.length_cons, List.length_nil, List.cons_append, List.nil_append, Nat.zero_add, Nat.reduceAdd, List.set_cons_succ, List.set_cons_zero]
  rw [Q_eqV hN v h1 h2 rfl rfl rfl rfl]
  simp only [c1_some, u1_list, c2_some, u2_list, b2_some, bd_some, List.length_cons, List.length_nil, List.cons_append, List.nil_append, Nat.zero_add, Nat.reduceAdd, List.set_cons_succ, List.set_cons_zero, qUn_not, qBin_lss, qBin_neq, qBin_bne, qB_bool, Bool.not_true, cond_false, decide_false, beq_self_eq_true, ne_eq, not_true_eq_false]
  rw [markV hN v h1 h2 rfl rfl]
  simp only [c1_some, u1_list, c2_some, u2_list, b2_some, bd_some, List.length_cons, List.length_nil, List.cons_append, List.nil_append, Nat.zero_add, Nat.reduceAdd, List.set_cons_succ, List.set_cons_zero, hk1, qUn_not, qBin_lss, qBin_neq, qBin_bne, qB_bool, Bool.not_true, cond_false, decide_false, beq_self_eq_true, ne_eq, not_true_eq_false]
  rw [ldW w.1 (i := 8) rfl]
  simp only [c1_some, u1_list, c2_some, u2_list, b2_some, bd_some, List.length_cons, List.length_nil, List.cons_append, List.nil_append, Nat.zero_add, Nat.reduceAdd, List.set_cons_succ, List.set_cons_zero]
  rw [ldW w.1 (i := 3) rfl]
  simp only [c1_some, u1_list, c2_some, u2_list, b2_some, bd_some, List.length_cons, List.length_nil, List.cons_append, List.nil_append, Nat.zero_add, Nat.reduceAdd, List.set_cons_succ, List.set_cons_zero]
  rw [Q_eqV hN w.1 b1 b2 rfl rfl rfl rfl]
  simp only [c1_some, u1_list, c2_some, u2_list, b2_some, bd_some, List.length_cons, List.length_nil, List.cons_append, List.nil_append, Nat.zero_add, Nat.reduceAdd, List.set_cons_succ, List.set_cons_zero, qUn_not, qBin_lss, qBin_neq, qBin_bne, qB_bool, Bool.not_true, cond_false, decide_false, beq_self_eq_true, ne_eq, not_true_eq_false]
  rw [ldW w.1 (i := 8) rfl]
  simp only [c1_some, u1_list, c2_some, u2_list, b2_some, bd_some, List.length_cons, List.length_nil, List.cons_append, List.nil_append, Nat.zero_add, Nat.reduceAdd, List.set_cons_succ, List.set_cons_zero]
  rw [markV hN w.1 b1 b2 rfl rfl]
  simp only [c1_some, u1_list, c2_some, u2_list, b2_some, bd_some, List.length_cons, List.length_nil, List.cons_append, List.nil_append, Nat.zero_add, Nat.reduceAdd, List.set_cons_succ, List.set_cons_zero]
  rw [ldW w.1 (i := 8) rfl]
  simp only [c1_some, u1_list, c2_some, u2_list, b2_some, bd_some, List.length_cons, List.length_nil, List.cons_append, List.nil_append, Nat.zero_add, Nat.reduceAdd, List.set_cons_succ, List.set_cons_zero]
  rw [Q_heldV hN w.1 b1 b2 rfl rfl]
  simp only [c1_some, u1_list, c2_some, u2_list, b2_some, bd_some, List.length_cons, List.length_nil, List.cons_append, List.nil_append, Nat.zero_add, Nat.reduceAdd, List.set_cons_succ, List.set_cons_zero, hk2, alV, qUn_not, qBin_lss, qBin_neq, qBin_bne, qB_bool, Bool.not_true, cond_false, decide_false, beq_self_eq_true, ne_eq, not_true_eq_false]
  rw [Q_toV hN v h1 h2]
  simp only [c1_some, u1_list, c2_some, u2_list, b2_some, bd_some, List.length_cons, List.length_nil, List.cons_append, List.nil_append, Nat.zero_add, Nat.reduceAdd, List.set_cons_succ, List.set_cons_zero]
  rw [Q_toO o]
  simp only [c1_some, u1_list, c2_some, u2_list, b2_some, bd_some, List.length_cons, List.length_nil, List.cons_append, List.nil_append, Nat.zero_add, Nat.reduceAdd, List.set_cons_succ, List.set_cons_zero]
  rw [Q_doI hN v o h1 h2 rfl rfl, hO]
  simp only [c1_some, u1_list, c2_some, u2_list, b2_some, bd_some, List.length_cons, List.length_nil, List.cons_append, List.nil_append, Nat.zero_add, Nat.reduceAdd, List.set_cons_succ, List.set_cons_zero]
  rw [stW w.1 (i := 15) rfl]
  simp only [c1_some, u1_list, c2_some, u2_list, b2_some, bd_some, List.length_cons, List.length_nil, List.cons_append, List.nil_append, Nat.zero_add, Nat.reduceAdd, List.set_cons_succ, List.set_cons_zero]
  rw [ldW w.1 (i := 15) rfl]
  simp only [c1_some, u1_list, c2_some, u2_list, b2_some, bd_some, List.length_cons, List.length_nil, List.cons_append, List.nil_append, Nat.zero_add, Nat.reduceAdd, List.set_cons_succ, List.set_cons_zero]
  rw [ldW w.1 (i := 3) rfl]
  simp only [c1_some, u1_list, c2_some, u2_list, b2_some, bd_some, List.length_cons, List.length_nil, List.cons_append, List.nil_append, Nat.zero_add, Nat.reduceAdd, List.set_cons_succ, List.set_cons_zero]
  rw [Q_eqV hN w.1 b1 b2 rfl rfl rfl rfl]
  simp only [c1_some, u1_list, c2_some, u2_list, b2_some, bd_some, List.length_cons, List.length_nil, List.cons_append, List.nil_append, Nat.zero_add, Nat.reduceAdd, List.set_cons_succ, List.set_cons_zero, qUn_not, qBin_lss, qBin_neq, qBin_bne, qB_bool, Bool.not_true, cond_false, decide_false, beq_self_eq_true, ne_eq, not_true_eq_false]
  rw [ldW w.1 (i := 8) rfl]
  simp only [c1_some, u1_list, c2_some, u2_list, b2_some, bd_some, List.length_cons, List.length_nil, List.cons_append, List.nil_append, Nat.zero_add, Nat.reduceAdd, List.set_cons_succ, List.set_cons_zero]
  rw [Q_heldV hN w.1 b1 b2 rfl rfl]
  simp only [c1_some, u1_list, c2_some, u2_list, b2_some, bd_some, List.length_cons, List.length_nil, List.cons_append, List.nil_append, Nat.zero_add, Nat.reduceAdd, List.set_cons_succ, List.set_cons_zero, hk2, qUn_not, qBin_lss, qBin_neq, qBin_bne, qB_bool, Bool.not_true, cond_false, decide_false, beq_self_eq_true, ne_eq, not_true_eq_false]
  exact ⟨_, rfl⟩
end
end Go.Lg.Pv.Q
namespace Go.Lg.Pv.Q
open Go Go.Lg Go.Lg.Pv
set_option linter.unusedVariables false
set_option linter.unusedSimpArgs false
set_option maxRecDepth 100000

def blank : List ByteArray := List.replicate 16 Z2
theorem blankS {N n : Nat} (hN : 4294967296 ≤ N) : run1 S_spec_l3Blank (qfn P N (n + 1) n_spec_l3Blank) [] = some ([.sl [.sc] (blank.map DV.str)], []) := by
  obtain ⟨M, rfl⟩ : ∃ M, N = M + 20 := ⟨N - 20, by omega⟩
  kernel_rfl
theorem blankI {N n : Nat} (hN : 4294967296 ≤ N) : run1 S_impl_emptyBlocks (qfn P N (n + 6) n_impl_emptyBlocks) [] = some ([.sl [.sc] (blank.map DV.str)], []) := by
  obtain ⟨M, rfl⟩ : ∃ M, N = M + 20 := ⟨N - 20, by omega⟩
  kernel_rfl
end Go.Lg.Pv.Q
namespace Go.Lg.Pv.Q
open Go Go.Lg Go.Lg.Pv
set_option linter.unusedVariables false
set_option linter.unusedSimpArgs false
set_option maxRecDepth 100000

def newV : Vol := ⟨blank, 0, [], 0⟩
theorem newV_ok : VOk newV := ⟨by decide, by decide, rfl, by decide, by decide, by decide, by decide⟩
def playV : List VOp → Vol → List Bool → Vol × List Bool
  | [], v, d => (v, d)
  | o :: l, v, d => playV l (doV v o).1 (d ++ [(doV v o).2])
def outP (l : List VOp) : Vol × List Bool × Bool := if l.length ≤ 60 then ((playV l newV []).1, (playV l newV []).2, true) else (vol0, [], false)
theorem playV_ok : ∀ (l : List VOp) (v : Vol) (d : List Bool), VOk v → VOk (playV l v d).1 ∧ (playV l v d).2.length = d.length + l.length
  | [], v, d, h => ⟨h, by simp [playV]⟩
  | o :: l, v, d, h => by
    have := playV_ok l (doV v o).1 (d ++ [(doV v o).2]) (doV_ok h o)
    refine ⟨this.1, this.2.trans ?_⟩
    simp only [List.length_append, List.length_cons, List.length_nil]; omega
theorem doV_same {v : Vol} {o : VOp} (h : (doV v o).2 = false) : (doV v o).1 = v := by
  have key : doV v o = (v, false) ∨ (doV v o).2 = true := by
    unfold doV
    repeat' split
    all_goals first | exact .inl rfl | exact .inr rfl
  rcases key with k | k
  · rw [k]
  · rw [k] at h; cases h
theorem newI {N n : Nat} (hN : 4294967296 ≤ N) (μ : PH) : cq S_impl_NewVolume (qfn P N (n + 7) n_impl_NewVolume) [] μ = some ([vOi μ.length newV], μ ++ [tB 0 newV.base, rB newV.log]) := by
  have hr : run1 S_impl_NewVolume (qfn P N (n + 7) n_impl_NewVolume) [] = some ([newV.enc], []) := by
    have hb : cq S_impl_emptyBlocks (qfn P N (n + 6) n_impl_emptyBlocks) [] [] = some ([oB 0], [tB 0 blank]) := by
      rw [cq_sn (args' := []) rfl rfl (blankI hN) rfl, adL_sl]; rfl
    refine run1_of rfl rfl rfl (r := [.agg [oB 0, .int .i64 0, .nil, .int .i64 0]]) (ν := [tB 0 blank]) (ν' := kl [tB 0 blank] 0) ?_ ?_
    · rw [impl_NewVolume_eq]
      unfold P_impl_NewVolume
      rw [hb]
      rfl
    · have hb : bk [tB 0 blank] 0 0 = some (tB 0 blank) := rfl
      have t1 := tk_own (s := .sl [.sc]) (x := false) (c := 16) hb rfl rfl (own_all (b := tB 0 blank) (l := blank.map DV.str) (n := 16) rfl (by decide)) (txt_cl blank)
      have t3 : ∀ (μ : PH) (s : Sh) (k : IntKind) (a : Int), tkC μ s (.int k a) = some (.int k a, μ) := fun _ _ _ _ => rfl
      have t4 : ∀ (μ : PH), tkC μ (.sl shRec) .nil = some (.sl shRec [], μ) := fun _ => rfl
      simp only [resO, S_impl_NewVolume, onS, zipS, List.headD_cons, List.tail_cons, t1, t3, t4, Option.bind_some, Option.map_some]
      rfl
  rw [cq_sn rfl rfl hr rfl, adL_vol _ _ (by decide)]; rfl
theorem newS {N n : Nat} (hN : 4294967296 ≤ N) (μ : PH) : cq S_spec_NewVolume (qfn P N (n + 2) n_spec_NewVolume) [] μ = some ([vOi μ.length newV], μ ++ [tB 0 newV.base, rB newV.log]) := by
  have hr : run1 S_spec_NewVolume (qfn P N (n + 2) n_spec_NewVolume) [] = some ([newV.enc], []) := by
    have hb : cq S_spec_l3Blank (qfn P N (n + 1) n_spec_l3Blank) [] [] = some ([oB 0], [tB 0 blank]) := by
      rw [cq_sn (args' := []) rfl rfl (blankS hN) rfl, adL_sl]; rfl
    refine run1_of rfl rfl rfl (r := [.agg [oB 0, .int .i64 0, .nil, .int .i64 0]]) (ν := [tB 0 blank]) (ν' := kl [tB 0 blank] 0) ?_ ?_
    · rw [spec_NewVolume_eq]
      unfold P_spec_NewVolume
      rw [hb]
      rfl
    · have hb : bk [tB 0 blank] 0 0 = some (tB 0 blank) := rfl
      have t1 := tk_own (s := .sl [.sc]) (x := false) (c := 16) hb rfl rfl (own_all (b := tB 0 blank) (l := blank.map DV.str) (n := 16) rfl (by decide)) (txt_cl blank)
      have t3 : ∀ (μ : PH) (s : Sh) (k : IntKind) (a : Int), tkC μ s (.int k a) = some (.int k a, μ) := fun _ _ _ _ => rfl
      have t4 : ∀ (μ : PH), tkC μ (.sl shRec) .nil = some (.sl shRec [], μ) := fun _ => rfl
      simp only [resO, S_spec_NewVolume, onS, zipS, List.headD_cons, List.tail_cons, t1, t3, t4, Option.bind_some, Option.map_some]
      rfl
  rw [cq_sn rfl rfl hr rfl, adL_vol _ _ (by decide)]; rfl

/-! what was done, as it grows -/
/-- nil, or a block of its own -/
inductive DN (μ : PH) : Nat → DV → List Bool → Prop where
  | nil (k : Nat) : DN μ k .nil []
  | own (k ver n : Nat) (d : List Bool) : bk μ k ver = some ⟨ver, [.sc], d.map eBool, true, false, true⟩ → n = d.length → DN μ k (.own k ver 0 n n false) d
theorem bsB (μ : PH) (b : Bool) : qBS μ true [.sc] false [.bool false] 1 1 [(0, .bool b)] = some (.sl [.sc] [.bool b], μ) := rfl
theorem DN.app {μ : PH} {k : Nat} {x : DV} {d : List Bool} (h : DN μ k x d) (hk : x = .nil → k = μ.length) (hd : d.length ≤ 1000) (b : Bool) :
    ∃ x' μ', qAp μ false [.sc] 1 1 x (.sl [.sc] [.bool b]) = some (x', μ') ∧ DN μ' k x' (d ++ [b]) ∧ x' ≠ .nil ∧ (∀ j, j ≠ k → j < μ.length → μ'[j]? = μ[j]?) ∧ μ.length ≤ μ'.length := by
  cases h with
  | nil =>
    have hk := hk rfl
    subst hk
    refine ⟨.own μ.length 1 0 1 1 false, μ ++ [⟨1, [.sc], [.bool b], true, false, true⟩], rfl, .own _ _ _ _ (by simp [bk]) rfl, by simp, fun j _ hj => by rw [List.getElem?_append_left hj], by simp⟩
  | own ver n _ hb hn =>
    have ha := qAp_up1 (by_ := 1) (z := 1) (sh := [.sc]) (e := .bool b) (c := n) (o := 0) (n := n) hb rfl rfl rfl rfl rfl (by omega) (by decide) (by omega) (by omega)
    refine ⟨_, _, ha, ?_, by simp, fun j hj _ => by rw [List.getElem?_set_ne (fun h => hj h.symm)], by rw [List.length_set]; exact Nat.le_refl _⟩
    have he : (List.take n (List.drop 0 (d.map eBool)) ++ [DV.bool b]) = (d ++ [b]).map eBool := by
      rw [List.drop_zero, List.take_of_length_le (by rw [List.length_map]; omega), List.map_append]; rfl
    show DN (μ.set k ⟨ver + 1, [.sc], List.take n (List.drop 0 (d.map eBool)) ++ [DV.bool b], true, false, true⟩) k _ _
    rw [he]
    exact .own _ _ _ _ (bk_set (b := ⟨ver + 1, [.sc], (d ++ [b]).map eBool, true, false, true⟩) (bk_lt hb) rfl) (by simp [hn])
theorem DN.mono {μ μ' : PH} {k : Nat} {x : DV} {d : List Bool} (h : DN μ k x d) (he : x ≠ .nil → μ'[k]? = μ[k]?) : DN μ' k x d := by
  cases h with
  | nil => exact .nil k
  | own ver n _ hb hn => exact .own _ _ _ _ (by unfold bk at hb ⊢; rw [he (by simp)]; exact hb) hn
theorem DN.lt {μ : PH} {k : Nat} {x : DV} {d : List Bool} (h : DN μ k x d) (hx : x ≠ .nil) : k < μ.length := by
  cases h with
  | nil => exact absurd rfl hx
  | own ver n _ hb _ => exact bk_lt hb
theorem DN.tk {μ : PH} {k : Nat} {x : DV} {d : List Bool} (h : DN μ k x d) : ∃ μ', tkC μ (.sl [.sc]) x = some (.sl [.sc] (d.map eBool), μ') := by
  cases h with
  | nil => exact ⟨μ, rfl⟩
  | own ver n _ hb hn =>
    have t := tk_own (s := .sl [.sc]) (x := false) (c := n) (o := 0) (n := n) hb rfl rfl (e := d.map eBool) (by rw [List.drop_zero]; exact List.take_of_length_le (by rw [List.length_map]; omega)) (eBool_cl d)
    exact ⟨_, t⟩
theorem VA.mono {μ μ' : PH} {p ib il vl o n c : Nat} {bj : PB} {v : Vol} (h : VA μ p ib il v vl o n c bj) (hp : μ'[p]? = μ[p]?) (hb : μ'[ib]? = μ[ib]?) (hl : μ'[il]? = μ[il]?) : VA μ' p ib il v vl o n c bj := by
  have e : ∀ {k ver : Nat}, μ'[k]? = μ[k]? → bk μ' k ver = bk μ k ver := fun h => by unfold bk; rw [h]
  exact ⟨(e hp).trans h.st, (e hb).trans h.tb, (e hl).trans h.lb, h.isr, h.len, h.nc, h.d1, h.d2, h.d3⟩
theorem res0P (ν : PH) : resO [shVol, [.sl [.sc]], [.sc]] [.agg [.nil, .int .i64 0, .nil, .int .i64 0], .nil, .bool false] ν = some ([vol0.enc, .sl [.sc] [], .bool false], ν) := rfl
theorem gt60 (l : List VOp) : decide ((l.length : Int) > 60) = !decide (l.length ≤ 60) := by
  by_cases h : l.length ≤ 60
  · have : ¬ ((l.length : Int) > 60) := by omega
    simp [h, this]
  · have : ((l.length : Int) > 60) := by omega
    simp [h, this]
/-- the end of both: the volume in new memory, what was done -/
theorem resP {μ : PH} {k : Nat} {x : DV} {d : List Bool} {w : Vol} (hw : VOk w) (hd : DN μ k x d) (hx : x ≠ .nil → k < μ.length) (rs : List (List Sh)) (hrs : rs = [shVol, [.sl [.sc]], [.sc]]) :
    ∃ ν', resO rs [vOi μ.length w, x, .bool true] (μ ++ [tB 0 w.base, rB w.log]) = some ([w.enc, .sl [.sc] (d.map eBool), .bool true], ν') := by
  subst hrs
  have t := resVi (ν := μ ++ [tB 0 w.base, rB w.log]) (i := μ.length) (v := w) hw.b (bk_ap0 rfl rfl) (bk_ap1 rfl rfl)
  have hd' : DN (kl (kl (μ ++ [tB 0 w.base, rB w.log]) μ.length) (μ.length + 1)) k x d := hd.mono fun hn => by
    have := hx hn
    rw [kl_gne (by omega), kl_gne (by omega), List.getElem?_append_left this]
  obtain ⟨μ', h'⟩ := hd'.tk
  refine ⟨μ', ?_⟩
  have hx' : onS tkC (kl (kl (μ ++ [tB 0 w.base, rB w.log]) μ.length) (μ.length + 1)) [.sl [.sc]] x = some (.sl [.sc] (d.map eBool), μ') := by
    cases hd with
    | nil => exact h'
    | own _ _ _ _ _ => exact h'
  simp only [resO, t, hx', Option.bind_some]
  rfl
end Go.Lg.Pv.Q
namespace Go.Lg.Pv.Q
open Go Go.Lg Go.Lg.Pv
set_option linter.unusedVariables false
set_option linter.unusedSimpArgs false
set_option maxRecDepth 100000

theorem playI {N n : Nat} (hN : 4294967296 ≤ N) (l : List VOp) (hlen : l.length ≤ 1048576) :
    run1 S_impl_PlayVolume (qfn P N (n + 8) n_impl_PlayVolume) [.sl shVOp (l.map VOp.enc)] = some ([(outP l).1.enc, .sl [.sc] ((outP l).2.1.map eBool), .bool (outP l).2.2], []) := by
  unfold outP
  by_cases hl : l.length ≤ 60
  · rw [if_pos hl]
    have hF := (playV_ok l newV [] newV_ok)
    generalize hFd : playV l newV [] = F at hF
    refine run1_ex rfl rfl rfl ?_
    rw [impl_PlayVolume_eq]
    unfold P_impl_PlayVolume
    have e1 := newI (n := n) hN []
    have e3 := stV (μ := [tB 0 newV.base, rB newV.log, aB [.sl [.sc] [], .int .i64 0, .sl shRec [], .int .i64 0]]) (id := 2) (i := 0) (ii := 0) (io := 0) (in_ := 16) (ic := 16) (j := 1) (jj := 0) (jo := 0) (jn := newV.log.length) (jc := newV.log.length) (f := newV.folded) (s := newV.sure) rfl rfl
    simp only [qLen_sl, bd_some, List.length_map, qBin_gtr, qB_bool, gt60, hl, decide_true, Bool.not_true, cond_false, e1, c1_some, u1_list, alV, b2_some, List.length_nil, List.nil_append, List.length_cons, List.cons_append, Nat.zero_add, Nat.reduceAdd, e3]
    have hs3 : ([tB 0 newV.base, rB newV.log, aB [.sl [.sc] [], .int .i64 0, .sl shRec [], .int .i64 0]].set 2 (aB [.own 0 0 0 16 16 false, .int .i64 newV.folded, .own 1 0 0 newV.log.length newV.log.length false, .int .i64 newV.sure])) = [tB 0 newV.base, rB newV.log, aB [.own 0 0 0 16 16 false, .int .i64 newV.folded, .own 1 0 0 newV.log.length newV.log.length false, .int .i64 newV.sure]] := rfl
    rw [hs3]
    have hva : VA [tB 0 newV.base, rB newV.log, aB [.own 0 0 0 16 16 false, .int .i64 newV.folded, .own 1 0 0 newV.log.length newV.log.length false, .int .i64 newV.sure]] 2 0 1 newV 0 0 newV.log.length newV.log.length (rB newV.log) :=
      ⟨rfl, rfl, rfl, IsR.rB newV.log, by simp [rB], Nat.le_refl _, by decide, by decide, by decide⟩
    generalize hμ0 : [tB 0 newV.base, rB newV.log, aB [.own 0 0 0 16 16 false, .int .i64 newV.folded, .own 1 0 0 newV.log.length newV.log.length false, .int .i64 newV.sure]] = μ0 at hva
    have hμl : μ0.length = 3 := by subst hμ0; rfl
    refine loop_ex (F := P_impl_PlayVolume.l0 N (qfn P N (n + 7)) 0) (N := N) (σ := Vol × List Bool × DV × PH) (len := l.length)
      (fun i s => ([.ptr 2 0 0 0, s.2.2.1, .sl shVOp (l.map VOp.enc), .int .i64 (l.length : Nat), .int .i64 (i : Nat), .nil, .int .i64 0, .nil, .int .i64 0] : List DV)) (fun i s => s.2.2.2)
      (fun i s => VOk s.1 ∧ (∃ vl o m c bj, VA s.2.2.2 2 0 1 s.1 vl o m c bj) ∧ DN s.2.2.2 3 s.2.2.1 s.2.1 ∧ (s.2.2.1 = .nil → 3 = s.2.2.2.length) ∧ (s.2.2.1 ≠ .nil → 3 < s.2.2.2.length) ∧ s.2.1.length = i ∧ playV (l.drop i) s.1 s.2.1 = F)
      (fun r : List DV × PH => ∃ ν', resO S_impl_PlayVolume.rs r.1 r.2 = some ([F.1.enc, .sl [.sc] (F.2.map eBool), .bool true], ν'))
      ?_ ?_ l.length (i := 0) (s := (newV, [], .nil, μ0)) ⟨newV_ok, ⟨_, _, _, _, _, hva⟩, .nil 3, fun _ => hμl.symm, fun h => absurd rfl h, rfl, by rw [List.drop_zero]; exact hFd⟩ (by omega) (by omega)
    · rintro i ⟨v, d, x, μ⟩ rec hi ⟨hv, ⟨vl, o', m, c, bj, hva⟩, hd, hx1, hx2, hdl, hp⟩
      simp only at hv hva hd hx1 hx2 hdl hp ⊢
      have hx : l.drop i = l[i] :: l.drop (i + 1) := List.drop_eq_getElem_cons hi
      rw [hx] at hp
      obtain ⟨μ1, q1, ⟨vl1, o1, m1, c1', bj1, q2⟩, q3⟩ := doI (n := n + 2) hN l[i] hv hva
      have hd1 : DN μ1 3 x d := hd.mono fun _ => q3.eq 3 (by decide) (by decide) (by decide)
      obtain ⟨x', μ2, g1, g2, g3, g4, g5⟩ := hd1.app (fun h => by rw [q3.len]; exact hx1 h) (by omega) (doV v l[i]).2
      have h3 : 3 ≤ μ1.length := by
        rw [q3.len]
        by_cases hn : x = .nil
        · exact Nat.le_of_eq (hx1 hn)
        · exact Nat.le_of_lt (hx2 hn)
      refine .inl ⟨((doV v l[i]).1, d ++ [(doV v l[i]).2], x', μ2), ⟨doV_ok hv _, ⟨vl1, o1, m1, c1', bj1, q2.mono (g4 2 (by decide) (by omega)) (g4 0 (by decide) (by omega)) (g4 1 (by decide) (by omega))⟩, g2, fun h => absurd h g3, fun _ => ?_, by simp [hdl], hp⟩, ?_⟩
      · exact g2.lt g3
      · unfold P_impl_PlayVolume.l0
        simp only [u9_list, bd_some, qBin_lss, qB_bool, Int.ofNat_lt, hi, decide_true, cond_true, qIA_map _ (show shVOp.length = 5 from rfl) hi, qLd_rp, VOp.get, Option.map_some, b2_some]
        unfold VOp.enc at q1 ⊢
        simp only [a5_agg, q1, c1_some, u1_list, bsB, b2_some, g1, qBin_add, bd_some]
        rw [wrapI (n := (i : Int) + 1) (by constructor <;> omega)]
        rfl
    · rintro ⟨v, d, x, μ⟩ rec ⟨hv, ⟨vl, o', m, c, bj, hva⟩, hd, hx1, hx2, hdl, hp⟩
      simp only at hv hva hd hx1 hx2 hdl hp ⊢
      have hz : l.drop l.length = [] := List.drop_length
      rw [hz] at hp
      have hp : (v, d) = F := hp
      have hvl := hv.l
      have e6 := cq_own (N := N) (n := n + 5) v hv.b (by omega) (μ := μ) (args := [.agg [.own 0 0 0 16 16 false, .int .i64 v.folded, .own 1 vl o' m c false, .int .i64 v.sure]]) (by
        simp only [sns, S_impl_Volume_own]; rw [snVG hva.tb (IsT.tB 0 v.base) hv.b hva.lb hva.isr]; rfl)
      refine ⟨([vOi μ.length v, x, .bool true], μ ++ [tB 0 v.base, rB v.log]), ?_, ?_⟩
      · unfold P_impl_PlayVolume.l0
        simp only [u9_list, bd_some, qBin_lss, qB_bool, Int.lt_irrefl, decide_false, cond_false, ldA hva.st rfl rfl rfl rfl, b2_some, e6, c1_some, u1_list, a4_agg]
      · subst hp
        exact resP hv hd hx2 _ rfl
  · rw [if_neg hl]
    refine run1_of rfl rfl rfl (r := [.agg [.nil, .int .i64 0, .nil, .int .i64 0], .nil, .bool false]) (ν := []) ?_ (res0P _)
    rw [impl_PlayVolume_eq]
    unfold P_impl_PlayVolume
    simp only [qLen_sl, bd_some, List.length_map, qBin_gtr, qB_bool, gt60, hl, decide_false, Bool.not_false, cond_true, bVol0, a4_agg]
structure PS (μ : PH) (v : Vol) (d : List Bool) (x : DV) (ib il k : Nat) : Prop where
  ok : VOk v
  tb : bk μ ib 0 = some (tB 0 v.base)
  lb : bk μ il 0 = some (rB v.log)
  dn : DN μ k x d
  kl : x ≠ .nil → k < μ.length ∧ ib ≠ k ∧ il ≠ k
theorem bk_app {μ ν : PH} {k ver : Nat} (h : k < μ.length) : bk (μ ++ ν) k ver = bk μ k ver := by unfold bk; rw [List.getElem?_append_left h]
theorem playS {N n : Nat} (hN : 4294967296 ≤ N) (l : List VOp) (hlen : l.length ≤ 1048576) :
    run1 S_spec_PlayVolume (qfn P N (n + 8) n_spec_PlayVolume) [.sl shVOp (l.map VOp.enc)] = some ([(outP l).1.enc, .sl [.sc] ((outP l).2.1.map eBool), .bool (outP l).2.2], []) := by
  unfold outP
  by_cases hl : l.length ≤ 60
  · rw [if_pos hl]
    generalize hFd : playV l newV [] = F
    refine run1_ex rfl rfl rfl ?_
    rw [spec_PlayVolume_eq]
    unfold P_spec_PlayVolume
    have e1 := newS (n := n + 5) hN []
    simp only [qLen_sl, bd_some, List.length_map, qBin_gtr, qB_bool, gt60, hl, decide_true, Bool.not_true, cond_false, e1, c1_some, u1_list, List.length_nil, List.nil_append, a4_agg]
    refine loop_ex (F := P_spec_PlayVolume.l0 N (qfn P N (n + 7)) 0) (N := N) (σ := Vol × List Bool × DV × PH × Nat × Nat) (len := l.length)
      (fun i s => ([s.2.2.1, .sl shVOp (l.map VOp.enc), .int .i64 (l.length : Nat), .int .i64 (i : Nat), .nil, .int .i64 0, .nil, .int .i64 0, .own s.2.2.2.2.1 0 0 16 16 false, .int .i64 s.1.folded, .own s.2.2.2.2.2 0 0 s.1.log.length s.1.log.length false, .int .i64 s.1.sure] : List DV)) (fun i s => s.2.2.2.1)
      (fun i s => (∃ k, PS s.2.2.2.1 s.1 s.2.1 s.2.2.1 s.2.2.2.2.1 s.2.2.2.2.2 k) ∧ s.2.1.length = i ∧ playV (l.drop i) s.1 s.2.1 = F)
      (fun r : List DV × PH => ∃ ν', resO S_spec_PlayVolume.rs r.1 r.2 = some ([F.1.enc, .sl [.sc] (F.2.map eBool), .bool true], ν'))
      ?_ ?_ l.length (i := 0) (s := (newV, [], .nil, [tB 0 newV.base, rB newV.log], 0, 1)) ⟨⟨0, newV_ok, rfl, rfl, .nil 0, fun h => absurd rfl h⟩, rfl, by rw [List.drop_zero]; exact hFd⟩ (by omega) (by omega)
    · rintro i ⟨v, d, x, μ, ib, il⟩ rec hi ⟨⟨k, hv, htb, hlb, hd, hk⟩, hdl, hp⟩
      simp only at hv htb hlb hd hk hdl hp ⊢
      have hx : l.drop i = l[i] :: l.drop (i + 1) := List.drop_eq_getElem_cons hi
      rw [hx] at hp
      have hvl := hv.l
      have hbl := bk_lt htb
      have hll := bk_lt hlb
      have hw := doV_ok hv l[i]
      have h1 := (bk_app (ν := [aB [.sl [.sc] [], .int .i64 0, .sl shRec [], .int .i64 0]]) (ver := 0) hbl).trans htb
      have h2 := (bk_app (ν := [aB [.sl [.sc] [], .int .i64 0, .sl shRec [], .int .i64 0]]) (ver := 0) hll).trans hlb
      have e2 := cq_l6Own (N := N) (n := n + 6) v hv.b (by omega) (μ := μ ++ [aB [.sl [.sc] [], .int .i64 0, .sl shRec [], .int .i64 0]]) (args := [.agg [.own ib 0 0 16 16 false, .int .i64 v.folded, .own il 0 0 v.log.length v.log.length false, .int .i64 v.sure]]) (by
        simp only [sns, S_spec_l6Own]; rw [snVG h1 (IsT.tB 0 v.base) hv.b h2 (IsR.rB v.log)]; rfl)
      generalize hμ1 : μ ++ [aB [.sl [.sc] [], .int .i64 0, .sl shRec [], .int .i64 0]] = μ1 at e2
      have hl1 : μ1.length = μ.length + 1 := by subst hμ1; simp
      have e3 := cq_l6Do (N := N) (n := n + 2) hN v l[i] hv (μ := μ1 ++ [tB 0 v.base, rB v.log]) (i := μ1.length) (bk_ap0 rfl rfl) (bk_ap1 rfl rfl)
      generalize hμ3 : kl (kl (μ1 ++ [tB 0 v.base, rB v.log]) μ1.length) (μ1.length + 1) ++ [tB 0 (doV v l[i]).1.base, rB (doV v l[i]).1.log] = μ3 at e3
      have hl2 : (μ1 ++ [tB 0 v.base, rB v.log]).length = μ.length + 3 := by simp [hl1]
      rw [hl2] at e3
      have hkk : (kl (kl (μ1 ++ [tB 0 v.base, rB v.log]) μ1.length) (μ1.length + 1)).length = μ.length + 3 := by rw [kl_len, kl_len, hl2]
      have hl3 : μ3.length = μ.length + 5 := by subst hμ3; simp [hkk]
      have old : ∀ j, j ≤ μ.length → μ3[j]? = μ1[j]? := fun j hj => by
        rw [← hμ3, List.getElem?_append_left (by omega), kl_gne (by omega), kl_gne (by omega), List.getElem?_append_left (by omega)]
      have hsb : bk μ3 μ.length 0 = some (aB [.sl [.sc] [], .int .i64 0, .sl shRec [], .int .i64 0]) := by
        unfold bk; rw [old _ (Nat.le_refl _)]; subst hμ1; simp; decide
      have n1 : bk μ3 (μ.length + 3) 0 = some (tB 0 (doV v l[i]).1.base) := by rw [← hμ3, ← hkk]; exact bk_ap0 rfl rfl
      have n2 : bk μ3 (μ.length + 3 + 1) 0 = some (rB (doV v l[i]).1.log) := by rw [← hμ3, ← hkk]; exact bk_ap1 rfl rfl
      have e4 := stV (i := μ.length + 3) (ii := 0) (io := 0) (in_ := 16) (ic := 16) (j := μ.length + 3 + 1) (jj := 0) (jo := 0) (jn := (doV v l[i]).1.log.length) (jc := (doV v l[i]).1.log.length) (f := (doV v l[i]).1.folded) (s := (doV v l[i]).1.sure) hsb rfl
      have hsb4 := bk_aB (b := [.own (μ.length + 3) 0 0 16 16 false, .int .i64 (doV v l[i]).1.folded, .own (μ.length + 3 + 1) 0 0 (doV v l[i]).1.log.length (doV v l[i]).1.log.length false, .int .i64 (doV v l[i]).1.sure]) hsb
      generalize hμ4 : μ3.set μ.length (aB [.own (μ.length + 3) 0 0 16 16 false, .int .i64 (doV v l[i]).1.folded, .own (μ.length + 3 + 1) 0 0 (doV v l[i]).1.log.length (doV v l[i]).1.log.length false, .int .i64 (doV v l[i]).1.sure]) = μ4 at e4 hsb4
      have hl4 : μ4.length = μ.length + 5 := by subst hμ4; rw [List.length_set, hl3]
      have old4 : ∀ j, j < μ.length → μ4[j]? = μ[j]? := fun j hj => by
        rw [← hμ4, List.getElem?_set_ne (by omega), old j (by omega), ← hμ1, List.getElem?_append_left hj]
      have m1 : bk μ4 (μ.length + 3) 0 = some (tB 0 (doV v l[i]).1.base) := by rw [← hμ4, bk_set_ne (by omega)]; exact n1
      have m2 : bk μ4 (μ.length + 3 + 1) 0 = some (rB (doV v l[i]).1.log) := by rw [← hμ4, bk_set_ne (by omega)]; exact n2
      obtain ⟨k', hd4, hk1, hk2⟩ : ∃ k', DN μ4 k' x d ∧ (x = .nil → k' = μ4.length) ∧ (x ≠ .nil → k' = k) := by
        by_cases hn : x = .nil
        · subst hn
          cases hd with
          | nil => exact ⟨μ4.length, .nil _, fun _ => rfl, fun h => absurd rfl h⟩
        · exact ⟨k, hd.mono fun _ => old4 k (hk hn).1, fun h => absurd h hn, fun _ => rfl⟩
      obtain ⟨x', μ5, g1, g2, g3, g4, g5⟩ := hd4.app hk1 (by omega) (doV v l[i]).2
      have hk5 : k' < μ5.length := g2.lt g3
      have kn : ∀ j, j < μ4.length → (x ≠ .nil → j ≠ k) → j ≠ k' := fun j hj hj2 => by
        by_cases hn : x = .nil
        · rw [hk1 hn]; omega
        · rw [hk2 hn]; exact hj2 hn
      have same : ∀ j, j < μ4.length → j ≠ k' → bk μ5 j 0 = bk μ4 j 0 := fun j hj hn => by unfold bk; rw [g4 j hn hj]
      have a3 : μ.length + 3 ≠ k' := kn _ (by omega) fun hn => by have := hk hn; omega
      have a4' : μ.length + 3 + 1 ≠ k' := kn _ (by omega) fun hn => by have := hk hn; omega
      cases hq : (doV v l[i]).2 with
      | true =>
        rw [hq] at g1 g2
        refine .inl ⟨((doV v l[i]).1, d ++ [true], x', μ5, μ.length + 3, μ.length + 3 + 1), ⟨⟨k', hw, (same _ (by omega) a3).trans m1, (same _ (by omega) a4').trans m2, g2, fun _ => ⟨hk5, a3, a4'⟩⟩, by simp [hdl], by rw [← hp]; simp only [playV, hq]⟩, ?_⟩
        unfold P_spec_PlayVolume.l0
        simp only [u12_list, bd_some, qBin_lss, qB_bool, Int.ofNat_lt, hi, decide_true, cond_true, qIA_map _ (show shVOp.length = 5 from rfl) hi, qLd_rp, VOp.get, Option.map_some, b2_some]
        unfold VOp.enc at e3 ⊢
        simp only [a5_agg, alV, b2_some, hμ1, e2, c1_some, u1_list, e3, c2_some, u2_list, e4, bd_some, hq, qB_bool, cond_true, ldA hsb4 rfl rfl rfl rfl, a4_agg, bsB, g1, qBin_add]
        rw [wrapI (n := (i : Int) + 1) (by constructor <;> omega)]
        rfl
      | false =>
        rw [hq] at g1 g2
        have hsame := doV_same hq
        refine .inl ⟨(v, d ++ [false], x', μ5, ib, il), ⟨⟨k', hv, ?_, ?_, g2, fun _ => ⟨hk5, ?_, ?_⟩⟩, by simp [hdl], by rw [← hp]; simp only [playV, hq, hsame]⟩, ?_⟩
        · have hn := kn ib (by omega) fun hn => (hk hn).2.1
          rw [same ib (by omega) hn]; unfold bk; rw [old4 ib hbl]; exact htb
        · have hn := kn il (by omega) fun hn => (hk hn).2.2
          rw [same il (by omega) hn]; unfold bk; rw [old4 il hll]; exact hlb
        · exact kn ib (by omega) fun hn => (hk hn).2.1
        · exact kn il (by omega) fun hn => (hk hn).2.2
        · unfold P_spec_PlayVolume.l0
          simp only [u12_list, bd_some, qBin_lss, qB_bool, Int.ofNat_lt, hi, decide_true, cond_true, qIA_map _ (show shVOp.length = 5 from rfl) hi, qLd_rp, VOp.get, Option.map_some, b2_some]
          unfold VOp.enc at e3 ⊢
          simp only [a5_agg, alV, b2_some, hμ1, e2, c1_some, u1_list, e3, c2_some, u2_list, e4, bd_some, hq, qB_bool, cond_false, bsB, g1, qBin_add]
          rw [wrapI (n := (i : Int) + 1) (by constructor <;> omega)]
          rfl
    · rintro ⟨v, d, x, μ, ib, il⟩ rec ⟨⟨k, hv, htb, hlb, hd, hk⟩, hdl, hp⟩
      simp only at hv htb hlb hd hk hdl hp ⊢
      have hz : l.drop l.length = [] := List.drop_length
      rw [hz] at hp
      have hp : (v, d) = F := hp
      have hvl := hv.l
      have e6 := cq_l6Own (N := N) (n := n + 6) v hv.b (by omega) (μ := μ) (args := [.agg [.own ib 0 0 16 16 false, .int .i64 v.folded, .own il 0 0 v.log.length v.log.length false, .int .i64 v.sure]]) (by
        simp only [sns, S_spec_l6Own]; rw [snVG htb (IsT.tB 0 v.base) hv.b hlb (IsR.rB v.log)]; rfl)
      refine ⟨([vOi μ.length v, x, .bool true], μ ++ [tB 0 v.base, rB v.log]), ?_, ?_⟩
      · unfold P_spec_PlayVolume.l0
        simp only [u12_list, bd_some, qBin_lss, qB_bool, Int.lt_irrefl, decide_false, cond_false, b2_some, e6, c1_some, u1_list, a4_agg]
      · subst hp
        exact resP hv hd (fun h => (hk h).1) _ rfl
  · rw [if_neg hl]
    refine run1_of rfl rfl rfl (r := [.agg [.nil, .int .i64 0, .nil, .int .i64 0], .nil, .bool false]) (ν := []) ?_ (res0P _)
    rw [spec_PlayVolume_eq]
    unfold P_spec_PlayVolume
    simp only [qLen_sl, bd_some, List.length_map, qBin_gtr, qB_bool, gt60, hl, decide_false, Bool.not_false, cond_true, bVol0, a4_agg]
end Go.Lg.Pv.Q
