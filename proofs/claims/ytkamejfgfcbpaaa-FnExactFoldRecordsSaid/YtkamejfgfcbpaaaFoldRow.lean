/- FnExactFoldRecords returns true whatever records it is handed, and what it was handed reads behind the call as it read before: no condition. -/
import Derived.Test.YtkamejfgfcbpaaaPackD
import Derived.Test.YtkamejfgfcbpaaaPS0
import Derived.Test.YtkamejfgfcbpaaaRows
import Derived.WalkKit
import Derived.ProofKit
import Derived.OpenShut
import Derived.ShutString
import Derived.ChangeOld
import Derived.Below
import Derived.SizedLaws
namespace Go.Lg.Pv.Q
open Go Go.Lg Go.Lg.Pv
set_option linter.unusedVariables false
set_option linter.unusedSimpArgs false

structure Rec where
  kind : Int
  loc : Int
  long : Int
  data : ByteArray
def Rec.enc (r : Rec) : DV := .agg [.int .i64 r.kind, .int .i64 r.loc, .int .i64 r.long, .str r.data]
abbrev shRec : List Sh := [.sc, .sc, .sc, .sc]
def Rec.ok (r : Rec) : Prop := inI r.kind ∧ inI r.loc ∧ inI r.long ∧ (r.data.size : Int) ≤ 9223372036854775807
theorem Rec.get (r : Rec) : getC (cellsD r.enc) 0 4 true = some r.enc := rfl
theorem Rec.cl (r : Rec) : cl r.enc = true := rfl
theorem recs_cl (l : List Rec) : Pv.cl (.sl shRec (l.map Rec.enc)) = true := by simp only [Pv.cl]; exact clL_map Rec.cl l
def szRec (r : Rec) (left : Int) : Int := if left - r.data.size < 0 then -1 else left - r.data.size
theorem szRecord_ok {N n : Nat} (r : Rec) (left : Int) (h0 : 0 ≤ left) (h1 : left ≤ 1048576) (hr : r.ok) :
    run1 S_laws_szRecord (qfn P N (n + 1) n_laws_szRecord) [r.enc, .int .i64 left] = some ([.int .i64 (szRec r left)], []) := by
  have hr := hr.2.2.2
  refine run1_of (ν := []) rfl rfl rfl (r := [.int .i64 (szRec r left)]) ?_ (resO_sc rfl)
  rw [laws_szRecord_eq]
  unfold P_laws_szRecord Rec.enc szRec
  simp
  rw [wrapI (n := left - (r.data.size : Nat)) (by constructor <;> omega)]
  split <;> rfl
def szRecs : List Rec → Int → Int
  | [], left => left
  | r :: l, left => if szRec r left < 0 then -1 else szRecs l (szRec r left)
theorem szRec_le {r : Rec} {left : Int} (h : ¬ szRec r left < 0) : 0 ≤ szRec r left ∧ szRec r left + r.data.size = left := by
  unfold szRec at h ⊢; split <;> rename_i h'
  · rw [if_pos h'] at h; exact absurd (by decide) h
  · omega
theorem szRecs_le : ∀ {l : List Rec} {left : Int}, ¬ szRecs l left < 0 → ∀ r ∈ l, (r.data.size : Int) ≤ left
  | r :: l, left, h, x, hx => by
    simp only [szRecs] at h
    split at h <;> rename_i h'
    · exact absurd (by decide) h
    · have := szRec_le h'
      rcases List.mem_cons.1 hx with rfl | hx
      · omega
      · have := szRecs_le h x hx; omega
theorem szRecordS_ok {N n : Nat} (hN : 4294967296 ≤ N) (l : List Rec) (left : Int) (h0 : 0 ≤ left) (h1 : left ≤ 1048576) (hl : ∀ r ∈ l, r.ok) (hlen : (l.length : Int) ≤ 9223372036854775807) :
    run1 S_laws_szRecordS (qfn P N (n + 2) n_laws_szRecordS) [.sl shRec (l.map Rec.enc), .int .i64 left] = some ([.int .i64 (if left - l.length < 0 then -1 else szRecs l (left - l.length))], []) := by
  refine run1_of (ν := []) rfl rfl rfl (r := [.int .i64 (if left - l.length < 0 then -1 else szRecs l (left - l.length))]) ?_ (resO_sc rfl)
  rw [laws_szRecordS_eq]
  unfold P_laws_szRecordS
  simp
  rw [wrapI (n := left - (l.length : Nat)) (by constructor <;> omega)]
  split <;> rename_i hlt
  · rfl
  refine (loop_acc (σ := Int) (len := l.length) (fun i left => ([.sl shRec (l.map Rec.enc), .int .i64 left, .int .i64 (i : Nat)] : List DV)) (fun _ _ => []) (fun _ left => 0 ≤ left ∧ left ≤ 1048576) (fun i left => some ([DV.int .i64 (szRecs (l.drop i) left)], []))
    ?_ ?_ l.length (i := 0) (s := left - l.length) ⟨by omega, by omega⟩ (by omega) (by omega)).trans (by simp)
  · intro i left rec hi ⟨g0, g1⟩
    have hx : l.drop i = l[i] :: l.drop (i + 1) := List.drop_eq_getElem_cons hi
    unfold P_laws_szRecordS.l0
    rw [hx]
    simp only [u3_list, qLen_sl, List.length_map, bd_some, qBin_lss, qB_bool, Int.ofNat_lt, hi, decide_true, cond_true, qIA_map _ (show shRec.length = 4 from rfl) hi, qLd_rp, Rec.get]
    simp only [Option.map_some, b2_some]
    rw [cq_sn (args' := [l[i].enc, .int .i64 left]) rfl (by simp [sns, S_laws_szRecord, sn_cl _ _ (Rec.cl _), sn_cl _ _ (show cl (.int .i64 left) = true from rfl)]) (szRecord_ok l[i] left g0 g1 (hl _ (List.getElem_mem hi))) rfl]
    rw [adL_sc rfl]
    simp only [c1_some, bd_some, qBin_lss, qB_bool]
    by_cases hs : szRec l[i] left < 0
    · refine .inr ?_
      simp [szRecs, hs]
    · refine .inl ⟨szRec l[i] left, ?_, ?_, ?_⟩
      · have := szRec_le hs; omega
      · have hb : (l.length : Int) ≤ 1048576 := by omega
        simp only [u1_list, bd_some, qBin_lss, qB_bool, hs, decide_false, cond_false, qBin_add]
        rw [wrapI (n := (i : Int) + 1) (by constructor <;> omega)]
        rfl
      · simp [szRecs, hs]
  · intro left rec _
    unfold P_laws_szRecordS.l0
    simp [szRecs]
end Go.Lg.Pv.Q
namespace Go.Lg.Pv.Q
open Go Go.Lg Go.Lg.Pv
set_option linter.unusedVariables false
set_option linter.unusedSimpArgs false

theorem toRecord_ok {N n : Nat} (r : Rec) : run1 S_laws_toRecord (qfn P N (n + 1) n_laws_toRecord) [r.enc] = some ([r.enc], []) := by
  refine run1_of (ν := []) rfl rfl rfl (r := [r.enc]) ?_ (resO_agg rfl)
  rw [laws_toRecord_eq]
  unfold P_laws_toRecord Rec.enc
  simp
def rec0 : Rec := ⟨0, 0, 0, ⟨#[]⟩⟩
/-- the block of a copy -/
def cpB (l : List Rec) (i : Nat) : PB := ⟨0, shRec, (pre l rec0 i).map Rec.enc, true, false, true⟩
theorem adL_rec (μ : PH) (r : Rec) : adL true μ [r.enc] = ([r.enc], μ) := adL_agg rfl
theorem toRecordS_ok {N n : Nat} (hN : 4294967296 ≤ N) (l : List Rec) (hlen : l.length ≤ 1048576) :
    run1 S_laws_toRecordS (qfn P N (n + 2) n_laws_toRecordS) [.sl shRec (l.map Rec.enc)] = some ([.sl shRec (l.map Rec.enc)], []) := by
  refine run1_of (ν := [cpB l l.length]) (ν' := kl [cpB l l.length] 0) rfl rfl rfl (r := [.own 0 0 0 l.length l.length true]) ?_ ?_
  · rw [laws_toRecordS_eq]
    unfold P_laws_toRecordS
    have h1 : (l.length : Int) * 40 ≤ 140737488355328 := by omega
    have h2 : (l.length : Int) ≤ 9223372036854775807 := by omega
    have hms : qMS [] [.sc, .sc, .sc, .sc] true [.int .i64 0, .int .i64 0, .int .i64 0, .str ⟨#[]⟩] 4 40 (.int .i64 l.length) (.int .i64 l.length) = some (.own 0 0 0 l.length l.length true, [cpB l 0]) := by
      simp [qMS, h1, h2, cpB, pre_zero, okC, isSc]
      exact .inr rfl
    simp only [qLen_sl, bd_some, List.length_map, hms, b2_some]
    refine (loop_acc (σ := Unit) (len := l.length) (fun i _ => ([.sl shRec (l.map Rec.enc), .own 0 0 0 l.length l.length true, .int .i64 (i : Nat)] : List DV)) (fun i _ => [cpB l i]) (fun _ _ => True) (fun i _ => some ([DV.own 0 0 0 l.length l.length true], [cpB l l.length]))
      ?_ ?_ l.length (i := 0) (s := ()) trivial (by omega) (by omega))
    · intro i _ rec hi _
      refine .inl ⟨(), trivial, ?_, rfl⟩
      unfold P_laws_toRecordS.l0
      simp only [u3_list, qLen_sl, List.length_map, bd_some, qBin_lss, qB_bool, Int.ofNat_lt, hi, decide_true, cond_true, qIA_map _ (show shRec.length = 4 from rfl) hi, qLd_rp, Rec.get]
      simp only [Option.map_some, b2_some]
      rw [cq_sn (args' := [l[i].enc]) rfl (by simp [sns, S_laws_toRecord, sn_cl _ _ (Rec.cl _)]) (toRecord_ok l[i]) rfl, adL_rec]
      have hb : bk [cpB l i] 0 0 = some (cpB l i) := rfl
      have hg : (cpB l i).el[i]? = some ((pre l rec0 i)[i]'(by rw [pre_len _ _ _ (by omega)]; exact hi)).enc := by simp [cpB, pre_len _ _ _ (Nat.le_of_lt hi), hi]
      simp only [u1_list, c1_some, qIA_own (size := 4) hb rfl hi (show (cpB l i).sh.length = 4 from rfl), bd_some, Nat.zero_add]
      rw [qSt_ptr (size := 4) (cs := [.int .i64 l[i].kind, .int .i64 l[i].loc, .int .i64 l[i].long, .str l[i].data]) hb hg rfl (Nat.le_refl 4) rfl]
      simp only [bd_some, qBin_add]
      rw [wrapI (n := (i : Int) + 1) (by constructor <;> omega)]
      have : ([cpB l i].set 0 { cpB l i with el := (cpB l i).el.set i l[i].enc }) = [cpB l (i + 1)] := by
        simp [cpB, ← pre_set l rec0 i hi, List.map_set]
      exact congrArg (rec _) this
    · intro _ rec _
      unfold P_laws_toRecordS.l0
      simp
  · have hb : bk [cpB l l.length] 0 0 = some (cpB l l.length) := rfl
    have he : ((cpB l l.length).el.drop 0).take l.length = l.map Rec.enc := by simp only [cpB, pre_last, List.drop_zero]; exact List.take_of_length_le (by simp)
    have hc : clL (l.map Rec.enc) = true := clL_map Rec.cl l
    simp only [resO, S_laws_toRecordS, onS, tk_own hb rfl rfl he hc, Option.bind_some]
    rfl

theorem eqStringS_ok {N n : Nat} (hN : 4294967296 ≤ N) (a b : List ByteArray) (ha : a.length ≤ 1048576) (hb : b.length ≤ 1048576) :
    run1 S_laws_eqStringS (qfn P N (n + 1) n_laws_eqStringS) [.sl [.sc] (a.map DV.str), .sl [.sc] (b.map DV.str)] = some ([.bool (decide (a = b))], []) := by
  refine run1_of (ν := []) rfl rfl rfl (r := [.bool (decide (a = b))]) ?_ (resO_sc rfl)
  rw [laws_eqStringS_eq]
  unfold P_laws_eqStringS
  simp
  by_cases hl : ¬ a.length = b.length
  · have : a ≠ b := fun h => hl (by rw [h])
    simp [this, show ¬ ((a.length : Int) = b.length) by omega]
  have hl := Decidable.of_not_not hl
  simp [hl]
  refine (loop_acc (σ := Unit) (len := a.length) (fun i _ => ([.sl [.sc] (a.map DV.str), .sl [.sc] (b.map DV.str), .int .i64 (i : Nat)] : List DV)) (fun _ _ => []) (fun _ _ => True) (fun i _ => some ([DV.bool (decide (a.drop i = b.drop i))], []))
    ?_ ?_ a.length (i := 0) (s := ()) trivial (by omega) (by omega)).trans (by simp)
  · intro i _ rec hi _
    have hi' : i < b.length := by omega
    have hx := drop_eq hi hi'
    unfold P_laws_eqStringS.l0
    simp [hi, hi']
    by_cases hs : a[i] = b[i]
    · refine .inl ?_
      rw [wrapI (n := (i : Int) + 1) (by constructor <;> omega)]
      simp [hx, hs]
    · refine .inr ?_
      simp [hx, hs]
  · intro _ rec _
    unfold P_laws_eqStringS.l0
    simp [hl]
theorem Rec.ext_iff' (a b : Rec) : (a = b) ↔ a.kind = b.kind ∧ a.loc = b.loc ∧ a.long = b.long ∧ a.data = b.data := by cases a; cases b; simp
instance : DecidableEq Rec := fun a b => decidable_of_iff _ (Rec.ext_iff' a b).symm
theorem eqRecord_ok {N n : Nat} (a b : Rec) : run1 S_laws_eqRecord (qfn P N (n + 1) n_laws_eqRecord) [a.enc, b.enc] = some ([.bool (decide (a = b))], []) := by
  refine run1_of (ν := []) rfl rfl rfl (r := [.bool (decide (a = b))]) ?_ (resO_sc rfl)
  rw [laws_eqRecord_eq]
  unfold P_laws_eqRecord Rec.enc
  by_cases h1 : a.kind = b.kind <;> by_cases h2 : a.loc = b.loc <;> by_cases h3 : a.long = b.long <;> by_cases h4 : a.data = b.data <;> simp [Rec.ext_iff', h1, h2, h3, h4]
theorem eqRecordS_ok {N n : Nat} (hN : 4294967296 ≤ N) (a b : List Rec) (ha : a.length ≤ 1048576) (hb : b.length ≤ 1048576) :
    run1 S_laws_eqRecordS (qfn P N (n + 2) n_laws_eqRecordS) [.sl shRec (a.map Rec.enc), .sl shRec (b.map Rec.enc)] = some ([.bool (decide (a = b))], []) := by
  refine run1_of (ν := []) rfl rfl rfl (r := [.bool (decide (a = b))]) ?_ (resO_sc rfl)
  rw [laws_eqRecordS_eq]
  unfold P_laws_eqRecordS
  simp
  by_cases hl : ¬ a.length = b.length
  · have : a ≠ b := fun h => hl (by rw [h])
    simp [this, show ¬ ((a.length : Int) = b.length) by omega]
  have hl := Decidable.of_not_not hl
  simp [hl]
  refine (loop_acc (σ := Unit) (len := a.length) (fun i _ => ([.sl shRec (a.map Rec.enc), .sl shRec (b.map Rec.enc), .int .i64 (i : Nat)] : List DV)) (fun _ _ => []) (fun _ _ => True) (fun i _ => some ([DV.bool (decide (a.drop i = b.drop i))], []))
    ?_ ?_ a.length (i := 0) (s := ()) trivial (by omega) (by omega)).trans (by simp)
  · intro i _ rec hi _
    have hi' : i < b.length := by omega
    have hx := drop_eq hi hi'
    unfold P_laws_eqRecordS.l0
    simp only [u3_list, qLen_sl, List.length_map, bd_some, qBin_lss, qB_bool, Int.ofNat_lt, hi, decide_true, cond_true, qIA_map _ (show shRec.length = 4 from rfl) hi, qIA_map _ (show shRec.length = 4 from rfl) hi', qLd_rp, Rec.get, Option.map_some, b2_some]
    rw [cq_sn (args' := [a[i].enc, b[i].enc]) rfl (by simp [sns, S_laws_eqRecord, sn_cl _ _ (Rec.cl _)]) (eqRecord_ok a[i] b[i]) rfl, adL_sc rfl]
    by_cases hs : a[i] = b[i]
    · refine .inl ⟨(), trivial, ?_, ?_⟩
      · simp [hx, hs]
        rw [wrapI (n := (i : Int) + 1) (by constructor <;> omega)]
      · simp [hx, hs]
    · refine .inr ?_
      simp [hx, hs]
  · intro _ rec _
    unfold P_laws_eqRecordS.l0
    simp [hl]
end Go.Lg.Pv.Q
namespace Go.Lg.Pv.Q
open Go Go.Lg Go.Lg.Pv
set_option linter.unusedVariables false
set_option linter.unusedSimpArgs false

def chr (k : Int) : ByteArray := ⟨#[UInt8.ofNat (IntKind.u8.wrap (IntKind.i64.wrap (48 + k.tmod 10))).toNat]⟩
def dg : Nat → Int → ByteArray → ByteArray
  | 0, _, out => out
  | f + 1, k, out => if k > 0 then dg f (k.tdiv 10) (chr k ++ out) else out
def mark (k : Int) : ByteArray := ⟨#[109]⟩ ++ dg 13 k ⟨#[]⟩
theorem mark_loop {N : Nat} {call : CW} (bs : Nat) (μ : PH) : ∀ (f M : Nat) (k : Int) (out : ByteArray), k < (10 : Int) ^ f → f < M → out.size + f ≤ 1000 → k ≤ 9223372036854775807 →
    iterD (P_laws_markText.l0 N call bs) M [.int .i64 k, .str out] μ = some ([.str (⟨#[109]⟩ ++ dg f k out)], μ)
  | 0, M, k, out, hk, hM, ho, hi => by
    obtain ⟨M, rfl⟩ : ∃ m, M = m + 1 := ⟨M - 1, by omega⟩
    have hk : ¬ k > 0 := by simp at hk; omega
    simp only [iterD]
    unfold P_laws_markText.l0
    simp [hk, dg]
    rw [qBin_sadd _ _ _ _ (by have : (⟨#[109]⟩ : ByteArray).size = 1 := rfl; omega)]
    rfl
  | f + 1, M, k, out, hk, hM, ho, hi => by
    obtain ⟨M, rfl⟩ : ∃ m, M = m + 1 := ⟨M - 1, by omega⟩
    simp only [iterD]
    unfold P_laws_markText.l0
    by_cases h : k > 0
    · have hq : k.tdiv 10 = k / 10 := Int.tdiv_eq_ediv_of_nonneg (by omega)
      simp only [u2_list, qBin_gtr, bd_some, qB_bool, h, decide_true, cond_true, qBin_rem _ _ _ k 10 (by decide), qBin_add, qInt_int]
      have h1 : ∀ v : Int, qBS μ true [.sc] false [.int .u8 0] 1 1 [(0, .int .u8 v)] = some (.sl [.sc] [.int .u8 v], μ) := fun v => rfl
      have h2 : ∀ v : Int, qB2S μ (.sl [.sc] [.int .u8 v]) = some (.str ⟨#[UInt8.ofNat v.toNat]⟩) := fun v => rfl
      simp only [h1, b2_some, h2, bd_some]
      have hs : (chr k).size = 1 := rfl
      have h3 : qBin μ .str .add (.str ⟨#[UInt8.ofNat (IntKind.u8.wrap (IntKind.i64.wrap (48 + k.tmod 10))).toNat]⟩) (.str out) = some (.str (chr k ++ out)) :=
        qBin_sadd μ .str (chr k) out (by omega)
      rw [h3]
      simp only [bd_some, qBin_quo _ _ _ k 10 (by decide)]
      have hb : k.tdiv 10 < (10 : Int) ^ f := by
        rw [hq]; rw [Int.pow_succ] at hk; omega
      have hr : IntKind.i64.wrap (k.tdiv 10) = k.tdiv 10 := by
        rw [hq]; exact wrapI (by constructor <;> omega)
      rw [hr]
      refine (mark_loop (N := N) (call := call) bs μ f M _ _ hb (by omega) (by rw [ByteArray.size_append]; omega) (by rw [hq]; omega)).trans ?_
      simp [dg, h]
    · simp [h, dg]
      rw [qBin_sadd _ _ _ _ (by have : (⟨#[109]⟩ : ByteArray).size = 1 := rfl; omega)]
      rfl
theorem markText_ok {N n : Nat} (hN : 4294967296 ≤ N) (k : Int) (h0 : 0 < k) (h1 : k < 10000000000000) :
    run1 S_laws_markText (qfn P N (n + 1) n_laws_markText) [.int .i64 k] = some ([.str (mark k)], []) := by
  refine run1_of (ν := []) rfl rfl rfl (r := [.str (mark k)]) ?_ (resO_sc rfl)
  rw [laws_markText_eq]
  unfold P_laws_markText
  simp only [qBin_leq, bd_some, qB_bool, show ¬ k ≤ 0 by omega, decide_false, cond_false]
  exact mark_loop 0 [] 13 N k _ (by simpa using h1) (by omega) (by decide) (by omega)
theorem cq_mark {N n : Nat} (hN : 4294967296 ≤ N) (μ : PH) (k : Int) (h0 : 0 < k) (h1 : k < 10000000000000) :
    cq S_laws_markText (qfn P N (n + 1) n_laws_markText) [.int .i64 k] μ = some ([.str (mark k)], μ) := by
  rw [cq_sn (args' := [.int .i64 k]) rfl rfl (markText_ok hN k h0 h1) rfl, adL_sc rfl]
def marks (k : Int) (n : Nat) : List ByteArray := (List.range n).map fun i => mark (k + (i : Nat))
theorem marks_len (k : Int) (n : Nat) : (marks k n).length = n := by simp [marks]
theorem marks_get (k : Int) (n i : Nat) (h : i < (marks k n).length) : (marks k n)[i] = mark (k + (i : Nat)) := by simp [marks]

theorem markStringS_ok {N n : Nat} (hN : 4294967296 ≤ N) {μ : PH} {id ver c : Nat} {x : Bool} {b : PB} {xs : List ByteArray} {k : Int} (hb : bk μ id ver = some b) (hel : b.el = xs.map DV.str) (hsh : b.sh = [.sc]) (hop : b.op = false)
    (hn : xs.length ≤ 1048576) (h0 : 0 < k) (h1 : k ≤ 100000000) :
    qfn P N (n + 2) n_laws_markStringS [.own id ver 0 xs.length c x, .int .i64 k] μ = some ([.int .i64 (k + xs.length)], μ.set id { b with el := (marks k xs.length).map DV.str }) := by
  have hid : id < μ.length := bk_lt hb
  have hlv := (bk_some hb).2
  rw [laws_markStringS_eq]
  unfold P_laws_markStringS
  have hm0 : μ = μ.set id { b with el := (mix (marks k xs.length) xs 0).map DV.str } := by
    rw [mix_zero, ← hel]; exact (bk_self hb).symm
  have hml := marks_len k xs.length
  conv => lhs; rw [hm0]
  refine Eq.trans (by simp) (loop_acc (F := P_laws_markStringS.l0 N (qfn P N (n + 1)) μ.length) (N := N) (σ := Unit) (len := xs.length) (fun i _ => ([.own id ver 0 xs.length c x, .int .i64 (k + (i : Nat)), .int .i64 (i : Nat)] : List DV)) (fun i _ => μ.set id { b with el := (mix (marks k xs.length) xs i).map DV.str })
    (fun _ _ => True) (fun i _ => some ([DV.int .i64 (k + xs.length)], μ.set id { b with el := (marks k xs.length).map DV.str })) ?_ ?_ xs.length (i := 0) (s := ()) trivial (by omega) (by omega))
  · intro i _ rec hi _
    refine .inl ⟨(), trivial, ?_, rfl⟩
    have hbk : bk (μ.set id { b with el := (mix (marks k xs.length) xs i).map DV.str }) id ver = some { b with el := (mix (marks k xs.length) xs i).map DV.str } := by
      have := bk_set (μ := μ) (b := { b with el := (mix (marks k xs.length) xs i).map DV.str }) hid hlv.1
      rw [← hlv.2]; exact this
    unfold P_laws_markStringS.l0
    simp only [u3_list, qLen_own hbk, bd_some, qBin_lss, qB_bool, Int.ofNat_lt, hi, decide_true, cond_true, cq_mark hN _ (k + (i : Nat)) (by omega) (by omega), c1_some, u1_list]
    have hi' : i < (marks k xs.length).length := by omega
    simp only [qIA_own (size := 1) hbk rfl hi (by rw [hsh]; rfl), bd_some, Nat.zero_add]
    rw [qSt_ptr (size := 1) (cs := [.str (mark (k + (i : Nat)))]) hbk (e := .str xs[i]) (by rw [List.getElem?_map, mix_get hml hi']; rfl) rfl (Nat.le_refl 1) (by rw [hop, hsh]; rfl)]
    simp only [bd_some, qBin_add]
    rw [wrapI (n := (i : Int) + 1) (by constructor <;> omega), wrapI (n := k + (i : Nat) + 1) (by constructor <;> omega)]
    have h2 : mkE (.str xs[i]) (overD (cellsD (.str xs[i])) 0 [.str (mark (k + (i : Nat)))]) = .str (mark (k + (i : Nat))) := rfl
    have h3 : ((mix (marks k xs.length) xs i).map DV.str).set i (.str (mark (k + (i : Nat)))) = (mix (marks k xs.length) xs (i + 1)).map DV.str := by
      rw [← mix_set hml hi', marks_get, List.map_set]
    simp only [h2, h3, List.set_set]
    rw [show k + (i : Nat) + 1 = k + ((i + 1 : Nat) : Int) by omega]
    rfl
  · intro _ rec _
    have hbk : bk (μ.set id { b with el := (mix (marks k xs.length) xs xs.length).map DV.str }) id ver = some { b with el := (mix (marks k xs.length) xs xs.length).map DV.str } := by
      have := bk_set (μ := μ) (b := { b with el := (mix (marks k xs.length) xs xs.length).map DV.str }) hid hlv.1
      rw [← hlv.2]; exact this
    unfold P_laws_markStringS.l0
    have hlast : mix (marks k xs.length) xs xs.length = marks k xs.length := by
      conv => lhs; rw [← hml]
      rw [hml]; conv => lhs; arg 3; rw [← hml]
      exact mix_last hml
    simp [qLen_own hbk]
    rw [hlast]
theorem heldStringS_ok {N n : Nat} (hN : 4294967296 ≤ N) (m : Nat) (k : Int) (hn : m ≤ 1048576) (h0 : 0 < k) (h1 : k ≤ 100000000) :
    run1 S_laws_heldStringS (qfn P N (n + 2) n_laws_heldStringS) [.sl [.sc] ((marks k m).map DV.str), .int .i64 k] = some ([.int .i64 (k + m)], []) := by
  refine run1_of (ν := []) rfl rfl rfl (r := [.int .i64 (k + m)]) ?_ (resO_sc rfl)
  rw [laws_heldStringS_eq]
  unfold P_laws_heldStringS
  have hml := marks_len k m
  refine Eq.trans (by simp) (loop_acc (F := P_laws_heldStringS.l0 N (qfn P N (n + 1)) 0) (N := N) (σ := Unit) (len := m) (fun i _ => ([.sl [.sc] ((marks k m).map DV.str), .int .i64 (k + (i : Nat)), .int .i64 (i : Nat)] : List DV)) (fun _ _ => [])
    (fun _ _ => True) (fun i _ => some ([DV.int .i64 (k + m)], [])) ?_ ?_ m (i := 0) (s := ()) trivial (by omega) (by omega))
  · intro i _ rec hi _
    refine .inl ⟨(), trivial, ?_, rfl⟩
    have hi' : i < (marks k m).length := by omega
    unfold P_laws_heldStringS.l0
    simp only [u3_list, qLen_sl, List.length_map, hml, bd_some, qBin_lss, qB_bool, Int.ofNat_lt, hi, decide_true, cond_true, qIA_map _ (show [Sh.sc].length = 1 from rfl) hi', qLd_rp, cellsD_str, getC_one, List.getElem?_cons_zero, Option.map_some, b2_some,
      cq_mark hN _ (k + (i : Nat)) (by omega) (by omega), c1_some, u1_list, stand_rp, qBin_sneq, marks_get, ne_eq, not_true_eq_false, decide_false, cond_false, qBin_add]
    rw [wrapI (n := (i : Int) + 1) (by constructor <;> omega), wrapI (n := k + (i : Nat) + 1) (by constructor <;> omega)]
    rw [show k + (i : Nat) + 1 = k + ((i + 1 : Nat) : Int) by omega]
    rfl
  · intro _ rec _
    unfold P_laws_heldStringS.l0
    simp [hml]
end Go.Lg.Pv.Q
namespace Go.Lg.Pv.Q
open Go Go.Lg Go.Lg.Pv
set_option linter.unusedVariables false
set_option linter.unusedSimpArgs false

def markR (k : Int) : Rec := ⟨k, k + 1, k + 2, mark (k + 3)⟩
def marksR (k : Int) (n : Nat) : List Rec := (List.range n).map fun i => markR (k + 4 * (i : Nat))
theorem marksR_len (k : Int) (n : Nat) : (marksR k n).length = n := by simp [marksR]
theorem marksR_get (k : Int) (n i : Nat) (h : i < (marksR k n).length) : (marksR k n)[i] = markR (k + 4 * (i : Nat)) := by simp [marksR]
theorem markRecordS_ok {N n : Nat} (hN : 4294967296 ≤ N) {μ : PH} {id ver c : Nat} {x : Bool} {b : PB} {xs : List Rec} {k : Int} (hb : bk μ id ver = some b) (hel : b.el = xs.map Rec.enc) (hsh : b.sh = shRec) (hop : b.op = false)
    (hn : xs.length ≤ 1048576) (h0 : 0 < k) (h1 : k ≤ 100000000) :
    qfn P N (n + 2) n_laws_markRecordS [.own id ver 0 xs.length c x, .int .i64 k] μ = some ([.int .i64 (k + 4 * xs.length)], μ.set id { b with el := (marksR k xs.length).map Rec.enc }) := by
  rw [laws_markRecordS_eq]
  unfold P_laws_markRecordS
  have hm0 : μ = μ.set id { b with el := (mix (marksR k xs.length) xs 0).map Rec.enc } := by
    rw [mix_zero, ← hel]; exact (bk_self hb).symm
  have hml := marksR_len k xs.length
  conv => lhs; rw [hm0]
  refine Eq.trans (by simp) (loop_acc (F := P_laws_markRecordS.l0 N (qfn P N (n + 1)) μ.length) (N := N) (σ := Unit) (len := xs.length) (fun i _ => ([.own id ver 0 xs.length c x, .int .i64 (k + 4 * (i : Nat)), .int .i64 (i : Nat)] : List DV)) (fun i _ => μ.set id { b with el := (mix (marksR k xs.length) xs i).map Rec.enc })
    (fun _ _ => True) (fun i _ => some ([DV.int .i64 (k + 4 * xs.length)], μ.set id { b with el := (marksR k xs.length).map Rec.enc })) ?_ ?_ xs.length (i := 0) (s := ()) trivial (by omega) (by omega))
  · intro i _ rec hi _
    refine .inl ⟨(), trivial, ?_, rfl⟩
    have hi' : i < (marksR k xs.length).length := by omega
    have hLl : i < ((mix (marksR k xs.length) xs i).map Rec.enc).length := by rw [List.length_map, mix_len hml]; exact hi
    have hL : (mix (marksR k xs.length) xs i).map Rec.enc = ((mix (marksR k xs.length) xs i).map Rec.enc).set i (.agg [.int .i64 xs[i].kind, .int .i64 xs[i].loc, .int .i64 xs[i].long, .str xs[i].data]) := by
      apply List.ext_getElem?
      intro j
      rw [List.getElem?_set]
      split
      · subst_vars; rw [List.getElem?_map, mix_get hml hi']; rfl
      · rfl
    unfold P_laws_markRecordS.l0
    generalize hLg : (mix (marksR k xs.length) xs i).map Rec.enc = L at hL hLl ⊢
    have hbk := bk_el hb L
    have hq : ∀ E : List DV, qIA (μ.set id { b with el := E }) 4 (.own id ver 0 xs.length c x) (.int .i64 (i : Nat)) = some (.ptr id ver i 0) := fun E => by
      rw [qIA_own (size := 4) (bk_el hb E) rfl hi (by show b.sh.length = 4; rw [hsh]; rfl), Nat.zero_add]
    simp only [u3_list, qLen_own hbk, bd_some, qBin_lss, qB_bool, Int.ofNat_lt, hi, decide_true, cond_true]
    rw [hL]
    simp only [hq, bd_some, qFA_ptr _ (bk_el hb _), Nat.zero_add]
    rw [st_at hb hop hLl (by simp) rfl rfl]
    simp only [bd_some, qBin_add, hq, qFA_ptr _ (bk_el hb _), Nat.zero_add]
    rw [wrapI (n := k + 4 * (i : Nat) + 1) (by constructor <;> omega), st_at hb hop hLl (by simp) rfl rfl]
    simp only [bd_some, qBin_add, hq, qFA_ptr _ (bk_el hb _), Nat.zero_add]
    rw [wrapI (n := k + 4 * (i : Nat) + 1 + 1) (by constructor <;> omega), st_at hb hop hLl (by simp) rfl rfl]
    simp only [bd_some, qBin_add]
    rw [wrapI (n := k + 4 * (i : Nat) + 1 + 1 + 1) (by constructor <;> omega)]
    simp only [cq_mark hN _ (k + 4 * (i : Nat) + 1 + 1 + 1) (by omega) (by omega), c1_some, u1_list, hq, bd_some, qFA_ptr _ (bk_el hb _), Nat.zero_add]
    rw [st_at hb hop hLl (by simp) rfl rfl]
    simp only [bd_some, qBin_add]
    rw [wrapI (n := (i : Int) + 1) (by constructor <;> omega), wrapI (n := k + 4 * (i : Nat) + 1 + 1 + 1 + 1) (by constructor <;> omega)]
    rw [← mix_set hml hi', List.map_set, marksR_get, hLg]
    rw [show k + 4 * (i : Nat) + 1 + 1 + 1 + 1 = k + 4 * ((i + 1 : Nat) : Int) by omega, show k + 4 * (i : Nat) + 1 + 1 + 1 = k + 4 * (i : Nat) + 3 by omega, show k + 4 * (i : Nat) + 1 + 1 = k + 4 * (i : Nat) + 2 by omega]
    rfl
  · intro _ rec _
    have hbk := bk_el hb ((mix (marksR k xs.length) xs xs.length).map Rec.enc)
    have hlast : mix (marksR k xs.length) xs xs.length = marksR k xs.length := by
      conv => lhs; arg 3; rw [← hml]
      exact mix_last hml
    unfold P_laws_markRecordS.l0
    simp [qLen_own hbk]
    rw [hlast]

/-! what is good -/
theorem within_ok {N n : Nat} (μ : PH) (a l h : Int) : cq S_impl_within (qfn P N (n + 1) n_impl_within) [.int .i64 a, .int .i64 l, .int .i64 h] μ = some ([.bool (decide (l ≤ a) && decide (a ≤ h))], μ) := by
  rw [cq_sn (args' := [.int .i64 a, .int .i64 l, .int .i64 h]) (res := [.bool (decide (l ≤ a) && decide (a ≤ h))]) rfl rfl ?_ rfl, adL_sc rfl]
  refine run1_of (ν := []) rfl rfl rfl (r := [.bool (decide (l ≤ a) && decide (a ≤ h))]) ?_ (resO_sc rfl)
  rw [impl_within_eq]
  unfold P_impl_within
  by_cases h1 : l ≤ a <;> simp [h1]
theorem l1In_ok {N n : Nat} (μ : PH) (a l h : Int) : cq S_spec_l1In (qfn P N (n + 1) n_spec_l1In) [.int .i64 a, .int .i64 l, .int .i64 h] μ = some ([.bool (decide (l ≤ a) && decide (a ≤ h))], μ) := by
  rw [cq_sn (args' := [.int .i64 a, .int .i64 l, .int .i64 h]) (res := [.bool (decide (l ≤ a) && decide (a ≤ h))]) rfl rfl ?_ rfl, adL_sc rfl]
  refine run1_of (ν := []) rfl rfl rfl (r := [.bool (decide (l ≤ a) && decide (a ≤ h))]) ?_ (resO_sc rfl)
  rw [spec_l1In_eq]
  unfold P_spec_l1In
  by_cases h1 : l ≤ a <;> simp [h1]
def inRun (a l : Int) : Bool := decide (1 ≤ l) && decide (l ≤ 4) && decide (0 ≤ a) && decide (a ≤ 16 - l)
theorem isRun_ok {N n : Nat} (μ : PH) (a l : Int) (h1 : 1 ≤ l) (h2 : l ≤ 4) : cq S_impl_isRun (qfn P N (n + 1) n_impl_isRun) [.int .i64 a, .int .i64 l] μ = some ([.bool (inRun a l)], μ) := by
  rw [cq_sn (args' := [.int .i64 a, .int .i64 l]) (res := [.bool (inRun a l)]) rfl rfl ?_ rfl, adL_sc rfl]
  refine run1_of (ν := []) rfl rfl rfl (r := [.bool (inRun a l)]) ?_ (resO_sc rfl)
  rw [impl_isRun_eq]
  unfold P_impl_isRun inRun
  simp [h1, h2]
  rw [wrapI (n := 16 - l) (by constructor <;> omega)]
  by_cases h3 : 0 ≤ a <;> simp [h3]
theorem l3Where_ok {N n : Nat} (μ : PH) (r : Rec) : cq S_spec_l3Where (qfn P N (n + 2) n_spec_l3Where) [r.enc] μ = some ([.bool (inRun r.loc r.long)], μ) := by
  rw [cq_sn (args' := [r.enc]) (res := [.bool (inRun r.loc r.long)]) rfl (by simp [sns, S_spec_l3Where, sn_cl _ _ (Rec.cl _)]) ?_ rfl, adL_sc rfl]
  refine run1_of (ν := []) rfl rfl rfl (r := [.bool (inRun r.loc r.long)]) ?_ (resO_sc rfl)
  rw [spec_l3Where_eq]
  unfold P_spec_l3Where inRun Rec.enc
  simp only [a4_agg, l1In_ok, c1_some, u1_list, qB_bool]
  by_cases h1 : 1 ≤ r.long <;> by_cases h2 : r.long ≤ 4 <;> simp [h1, h2, l1In_ok]
  rw [wrapI (n := 16 - r.long) (by constructor <;> omega)]
def good (r : Rec) : Bool :=
  if r.kind = 1 then inRun r.loc r.long && decide ((r.data.size : Int) = 2 * r.long)
  else if r.kind = 2 then inRun r.loc r.long && decide (r.data = ⟨#[]⟩)
  else if r.kind = 3 then decide (0 ≤ r.loc) && decide (r.loc ≤ 200) && decide (r.long = 0) && decide (r.data = ⟨#[]⟩)
  else false
theorem goodI {N n : Nat} (μ : PH) (r : Rec) : qfn P N (n + 2) n_impl_GoodRecord [r.enc] μ = some ([.bool (good r)], μ) := by
  rw [impl_GoodRecord_eq]
  unfold P_impl_GoodRecord good Rec.enc
  simp only [a4_agg, qBin_eql, bd_some, qB_bool, cond_dec, within_ok, c1_some, u1_list, qLs_str, qBin_mul, qBin_seql]
  by_cases h1 : 1 ≤ r.long <;> by_cases h2 : r.long ≤ 4
  · simp only [h1, h2, decide_true, Bool.and_self, cond_true, isRun_ok _ _ _ h1 h2, c1_some, u1_list, bd_some, qB_bool]
    rw [wrapI (n := 2 * r.long) (by constructor <;> omega)]
    have h0 : ¬ r.long = 0 := by omega
    cases hq : inRun r.loc r.long <;> simp [h0] <;> (repeat' split) <;> simp_all
  all_goals (simp [h1, h2, inRun] <;> (repeat' split) <;> simp_all)
  all_goals (cases (decide (0 ≤ r.loc) && decide (r.loc ≤ 200)) <;> simp)
theorem goodS {N n : Nat} (μ : PH) (r : Rec) : cq S_spec_GoodRecord (qfn P N (n + 3) n_spec_GoodRecord) [r.enc] μ = some ([.bool (good r)], μ) := by
  rw [cq_sn (args' := [r.enc]) (res := [.bool (good r)]) rfl (by simp [sns, S_spec_GoodRecord, sn_cl _ _ (Rec.cl _)]) ?_ rfl, adL_sc rfl]
  refine run1_of (ν := []) rfl rfl rfl (r := [.bool (good r)]) ?_ (resO_sc rfl)
  rw [spec_GoodRecord_eq]
  have hw := l3Where_ok (N := N) (n := n) [] r
  unfold Rec.enc at hw
  unfold P_spec_GoodRecord good Rec.enc
  simp only [a4_agg, qBin_eql, bd_some, qB_bool, cond_dec, l1In_ok, hw, c1_some, u1_list, qLs_str, qBin_mul, qBin_seql]
  cases hq : inRun r.loc r.long
  · simp
    (repeat' split) <;> simp_all
    all_goals (cases (decide (0 ≤ r.loc) && decide (r.loc ≤ 200)) <;> simp)
  · have : r.long ≤ 4 ∧ 1 ≤ r.long := by simp [inRun] at hq; omega
    simp
    rw [wrapI (n := 2 * r.long) (by constructor <;> omega)]
    have h0 : ¬ r.long = 0 := by omega
    (repeat' split) <;> simp_all
end Go.Lg.Pv.Q
namespace Go.Lg.Pv.Q
open Go Go.Lg Go.Lg.Pv
set_option linter.unusedVariables false
set_option linter.unusedSimpArgs false
set_option maxRecDepth 100000

abbrev fGood : DV := .fn n_impl_GoodRecord [] []
abbrev fNot : DV := .fn n_impl_areAll_impl_Record_1 [] [.rp fGood 0]
theorem notGood_ok {N n : Nat} (μ : PH) (r : Rec) : qfn P N (n + 3) n_impl_areAll_impl_Record_1 [r.enc, .rp fGood 0] μ = some ([.bool (!good r)], μ) := by
  rw [impl_areAll_impl_Record_1_eq]
  have h := goodI (N := N) (n := n) μ r
  unfold Rec.enc at h
  unfold P_impl_areAll_impl_Record_1 Rec.enc
  simp only [a4_agg, qLd_rp]
  have hg : getC (cellsD fGood) 0 1 false = some fGood := rfl
  simp only [hg, Option.map_some, b2_some, qF_fn, List.nil_append, List.append_nil, List.singleton_append, h, c1_some, u1_list, qUn_not, bd_some]
def ixf : List Rec → Nat → Int
  | [], _ => -1
  | r :: l, i => if good r then ixf l (i + 1) else i
theorem ixf_all : ∀ (l : List Rec) (i : Nat), decide (ixf l i ≥ 0) = !l.all good
  | [], i => rfl
  | r :: l, i => by
    simp only [ixf, List.all_cons]
    by_cases h : good r = true
    · simp only [h, if_true, Bool.true_and]; exact ixf_all l (i + 1)
    · simp [h]
theorem ixf_ok {N n : Nat} (hN : 4294967296 ≤ N) (l : List Rec) (hlen : l.length ≤ 1048576) :
    run1 S_slices_IndexFunc_impl_Record_impl_Record (qfn P N (n + 4) n_slices_IndexFunc_impl_Record_impl_Record) [.sl shRec (l.map Rec.enc), fNot] = some ([.int .i64 (ixf l 0)], []) := by
  refine run1_of (ν := []) rfl rfl rfl (r := [.int .i64 (ixf l 0)]) ?_ (resO_sc rfl)
  rw [slices_IndexFunc_impl_Record_impl_Record_eq]
  unfold P_slices_IndexFunc_impl_Record_impl_Record
  refine Eq.trans (by simp) (loop_acc (F := P_slices_IndexFunc_impl_Record_impl_Record.l0 N (qfn P N (n + 3)) 0) (N := N) (σ := Unit) (len := l.length) (fun i _ => ([.sl shRec (l.map Rec.enc), fNot, .int .i64 (l.length : Nat), .int .i64 (i : Nat)] : List DV)) (fun _ _ => []) (fun _ _ => True) (fun i _ => some ([DV.int .i64 (ixf (l.drop i) i)], []))
    ?_ ?_ l.length (i := 0) (s := ()) trivial (by omega) (by omega))
  · intro i _ rec hi _
    have hx : l.drop i = l[i] :: l.drop (i + 1) := List.drop_eq_getElem_cons hi
    rw [hx]
    unfold P_slices_IndexFunc_impl_Record_impl_Record.l0
    simp only [u4_list, bd_some, qBin_lss, qB_bool, Int.ofNat_lt, hi, decide_true, cond_true, qIA_map _ (show shRec.length = 4 from rfl) hi, qLd_rp, Rec.get, Option.map_some, b2_some, qF_fn, List.nil_append, List.singleton_append, notGood_ok, c1_some, u1_list, ixf]
    cases hg : good l[i]
    · refine .inr ?_; rfl
    · refine .inl ⟨(), trivial, ?_, rfl⟩
      simp only [Bool.not_true, cond_false, qBin_add, bd_some]
      rw [wrapI (n := (i : Int) + 1) (by constructor <;> omega)]
      rfl
  · intro _ rec _
    unfold P_slices_IndexFunc_impl_Record_impl_Record.l0
    simp [ixf]
theorem contains_ok {N n : Nat} (hN : 4294967296 ≤ N) (l : List Rec) (hlen : l.length ≤ 1048576) :
    run1 S_slices_ContainsFunc_impl_Record_impl_Record (qfn P N (n + 5) n_slices_ContainsFunc_impl_Record_impl_Record) [.sl shRec (l.map Rec.enc), fNot] = some ([.bool (!l.all good)], []) := by
  refine run1_of (ν := []) rfl rfl rfl (r := [.bool (!l.all good)]) ?_ (resO_sc rfl)
  rw [slices_ContainsFunc_impl_Record_impl_Record_eq]
  unfold P_slices_ContainsFunc_impl_Record_impl_Record
  rw [cq_sn (args' := [.sl shRec (l.map Rec.enc), fNot]) rfl (by simp only [sns, S_slices_IndexFunc_impl_Record_impl_Record, sn_cl _ _ (recs_cl l), sn_cl _ _ (show cl fNot = true from rfl), Option.bind_some]) (ixf_ok (n := n) hN l hlen) rfl, adL_sc rfl]
  simp only [c1_some, u1_list, qBin_geq, bd_some, ixf_all]
theorem areAll_ok {N n : Nat} (hN : 4294967296 ≤ N) (l : List Rec) (hlen : l.length ≤ 1048576) :
    run1 S_impl_areAll_impl_Record (qfn P N (n + 6) n_impl_areAll_impl_Record) [.sl shRec (l.map Rec.enc), fGood] = some ([.bool (l.all good)], []) := by
  refine run1_of (ν := [⟨0, [.sc], [fGood], true, true, true⟩]) rfl rfl rfl (r := [.bool (l.all good)]) ?_ (resO_sc rfl)
  rw [impl_areAll_impl_Record_eq]
  unfold P_impl_areAll_impl_Record
  have ha : qAl [] true [.sc] false [fGood] = some (.ptr 0 0 0 0, [⟨0, [.sc], [fGood], true, true, true⟩]) := rfl
  simp only [s1_fn, ha, b2_some]
  have hs : sns [⟨0, [.sc], [fGood], true, true, true⟩] S_slices_ContainsFunc_impl_Record_impl_Record.ps [.sl shRec (l.map Rec.enc), .fn n_impl_areAll_impl_Record_1 [] [.ptr 0 0 0 0]] = some [.sl shRec (l.map Rec.enc), fNot] := by
    simp only [sns, S_slices_ContainsFunc_impl_Record_impl_Record, sn_cl _ _ (recs_cl l), Option.bind_some]
    rfl
  rw [cq_sn rfl hs (contains_ok (n := n) hN l hlen) rfl, adL_sc rfl]
  simp only [c1_some, u1_list, qUn_not, bd_some, Bool.not_not]
theorem l3Good_ok {N n : Nat} (hN : 4294967296 ≤ N) (l : List Rec) (hlen : l.length ≤ 1048576) :
    run1 S_spec_l3Good (qfn P N (n + 4) n_spec_l3Good) [.sl shRec (l.map Rec.enc)] = some ([.bool (l.all good)], []) := by
  refine run1_of (ν := []) rfl rfl rfl (r := [.bool (l.all good)]) ?_ (resO_sc rfl)
  rw [spec_l3Good_eq]
  unfold P_spec_l3Good
  refine Eq.trans (by simp) (loop_acc (F := P_spec_l3Good.l0 N (qfn P N (n + 3)) 0) (N := N) (σ := Unit) (len := l.length) (fun i _ => ([.sl shRec (l.map Rec.enc), .int .i64 (l.length : Nat), .int .i64 (i : Nat)] : List DV)) (fun _ _ => []) (fun _ _ => True) (fun i _ => some ([DV.bool ((l.drop i).all good)], []))
    ?_ ?_ l.length (i := 0) (s := ()) trivial (by omega) (by omega))
  · intro i _ rec hi _
    have hx : l.drop i = l[i] :: l.drop (i + 1) := List.drop_eq_getElem_cons hi
    rw [hx]
    have hgs := goodS (N := N) (n := n) [] l[i]
    unfold P_spec_l3Good.l0
    simp only [u3_list, bd_some, qBin_lss, qB_bool, Int.ofNat_lt, hi, decide_true, cond_true, qIA_map _ (show shRec.length = 4 from rfl) hi, qLd_rp, Rec.get, Option.map_some, b2_some]
    unfold Rec.enc at hgs ⊢
    simp only [a4_agg, hgs, c1_some, u1_list, qUn_not, bd_some, qB_bool, List.all_cons]
    cases hg : good l[i]
    · refine .inr ?_; rfl
    · refine .inl ⟨(), trivial, ?_, by simp⟩
      simp only [Bool.not_true, cond_false, qBin_add, bd_some]
      rw [wrapI (n := (i : Int) + 1) (by constructor <;> omega)]
      rfl
  · intro _ rec _
    unfold P_spec_l3Good.l0
    simp

/-! what is done -/
def Z2 : ByteArray := ⟨#[0, 0]⟩
def piece (r : Rec) (i : Nat) : ByteArray := if r.kind = 1 then r.data.extract (2 * i) (2 * i + 2) else Z2
def doN (r : Rec) (bl : List ByteArray) : Nat → List ByteArray
  | 0 => bl
  | i + 1 => (doN r bl i).set (r.loc.toNat + i) (piece r i)
theorem doN_len (r : Rec) (bl : List ByteArray) : ∀ i, (doN r bl i).length = bl.length
  | 0 => rfl
  | i + 1 => by simp [doN, doN_len r bl i]
theorem good_long {r : Rec} (h : good r = true) : 0 ≤ r.long ∧ r.long ≤ 4 ∧ (0 < r.long → 0 ≤ r.loc ∧ r.loc + r.long ≤ 16) ∧ (r.kind = 1 → (r.data.size : Int) = 2 * r.long) := by
  unfold good inRun at h
  split at h
  · simp at h; omega
  · split at h
    · simp at h; omega
    · split at h
      · simp at h; omega
      · cases h
/-- a block of texts -/
def tB (bl : List ByteArray) : PB := ⟨0, [.sc], bl.map DV.str, true, false, true⟩
theorem qSs_ok (s : ByteArray) (i : Nat) (a b : Int) (ha : a = 2 * (i : Nat)) (hb : b = 2 * (i : Nat) + 2) (h : 2 * i + 2 ≤ s.size) (k k' : IntKind) : qSs (.str s) (some (.int k a)) (some (.int k' b)) = some (.str (s.extract (2 * i) (2 * i + 2))) := by
  subst ha hb
  have h1 : (2 * (i : Int) + 2) ≤ (s.size : Int) := by omega
  have h3 : (2 * (i : Int) + 2).toNat = 2 * i + 2 := by omega
  have h4 : (2 * (i : Int)).toNat = 2 * i := by omega
  have h5 : (0 : Int) ≤ 2 * (i : Int) + 2 := by omega
  have h6 : (0 : Int) ≤ 2 * (i : Int) := by omega
  simp [qSs, qBd, asID, h1, h3, h4, h5, h6]
  rw [if_pos (by omega)]; rfl
theorem st_tB {bl : List ByteArray} {j : Nat} {s : ByteArray} (h : j < bl.length) : qSt [tB bl] 1 (.ptr 0 0 j 0) (.str s) = some [tB (bl.set j s)] := by
  have hb : bk [tB bl] 0 0 = some (tB bl) := rfl
  rw [qSt_ptr (size := 1) (cs := [.str s]) hb (e := .str bl[j]) (by simp [tB, h]) rfl (Nat.le_refl 1) rfl]
  simp only [tB, List.map_set]
  rfl
theorem ia_tB {bl : List ByteArray} {j : Nat} {a : Int} {k : IntKind} (ha : a = (j : Nat)) (h : j < bl.length) : qIA [tB bl] 1 (.own 0 0 0 bl.length bl.length false) (.int k a) = some (.ptr 0 0 j 0) := by
  have hb : bk [tB bl] 0 0 = some (tB bl) := rfl
  rw [qIA_own (size := 1) hb ha h rfl, Nat.zero_add]
abbrev oB : DV := .own 0 0 0 16 16 false
theorem do_ok {N n : Nat} (hN : 4294967296 ≤ N) {bl : List ByteArray} {r : Rec} (h16 : bl.length = 16) (hg : good r = true) :
    qfn P N (n + 1) n_impl_Record_do [r.enc, oB] [tB bl] = some ([], [tB (doN r bl r.long.toNat)]) := by
  rw [impl_Record_do_eq]
  obtain ⟨g0, g1, g2, g3⟩ := good_long hg
  unfold P_impl_Record_do Rec.enc
  obtain ⟨m, hm⟩ : ∃ m : Nat, r.long = (m : Int) := ⟨r.long.toNat, by omega⟩
  simp only [a4_agg, hm, Int.toNat_natCast]
  refine Eq.trans (by simp [doN]) (loop_acc (F := P_impl_Record_do.l0 N (qfn P N n) 1) (N := N) (σ := Unit) (len := m) (fun i _ => ([oB, .int .i64 (m : Nat), .int .i64 (i : Nat), .int .i64 r.kind, .int .i64 r.loc, .int .i64 (m : Nat), .str r.data] : List DV)) (fun i _ => [tB (doN r bl i)]) (fun _ _ => True) (fun _ _ => some ([], [tB (doN r bl m)]))
    ?_ ?_ m (i := 0) (s := ()) trivial (by omega) (by omega))
  · intro i _ rec hi _
    refine .inl ⟨(), trivial, ?_, rfl⟩
    obtain ⟨g4, g5⟩ := g2 (by omega)
    have hj : r.loc.toNat + i < (doN r bl i).length := by rw [doN_len, h16]; omega
    have hw : IntKind.i64.wrap (r.loc + (i : Nat)) = r.loc + (i : Nat) := wrapI (by constructor <;> omega)
    have hia := ia_tB (bl := doN r bl i) (k := .i64) (a := r.loc + (i : Nat)) (j := r.loc.toNat + i) (by omega) hj
    rw [doN_len, h16] at hia
    unfold P_impl_Record_do.l0
    simp only [u7_list, qBin_lss, bd_some, qB_bool, Int.ofNat_lt, hi, decide_true, cond_true, qBin_eql, qBin_add, qBin_mul, hw, hia]
    rw [wrapI (n := (i : Int) + 1) (by constructor <;> omega), wrapI (n := 2 * (i : Int)) (by constructor <;> omega), wrapI (n := 2 * ((i : Int) + 1)) (by constructor <;> omega)]
    by_cases hk : r.kind = 1
    · have := g3 hk
      simp only [hk, decide_true, cond_true]
      rw [qSs_ok r.data i _ _ rfl (by omega) (by omega)]
      simp only [bd_some, st_tB hj, doN, piece, hk, if_true]
      rfl
    · simp only [hk, decide_false, cond_false]
      simp only [bd_some, st_tB hj, doN, piece, hk, if_false]
      rfl
  · intro _ rec _
    unfold P_impl_Record_do.l0
    simp
theorem l3Do_ok {N n : Nat} (hN : 4294967296 ≤ N) {bl : List ByteArray} {r : Rec} (h16 : bl.length = 16) (hg : good r = true) :
    qfn P N (n + 1) n_spec_l3Do [oB, r.enc] [tB bl] = some ([], [tB (doN r bl r.long.toNat)]) := by
  rw [spec_l3Do_eq]
  obtain ⟨g0, g1, g2, g3⟩ := good_long hg
  unfold P_spec_l3Do Rec.enc
  obtain ⟨m, hm⟩ : ∃ m : Nat, r.long = (m : Int) := ⟨r.long.toNat, by omega⟩
  simp only [a4_agg, hm, Int.toNat_natCast]
  refine Eq.trans (by simp [doN]) (loop_acc (F := P_spec_l3Do.l0 N (qfn P N n) 1) (N := N) (σ := Unit) (len := m) (fun i _ => ([oB, .int .i64 (i : Nat), .int .i64 r.kind, .int .i64 r.loc, .int .i64 (m : Nat), .str r.data] : List DV)) (fun i _ => [tB (doN r bl i)]) (fun _ _ => True) (fun _ _ => some ([], [tB (doN r bl m)]))
    ?_ ?_ m (i := 0) (s := ()) trivial (by omega) (by omega))
  · intro i _ rec hi _
    refine .inl ⟨(), trivial, ?_, rfl⟩
    obtain ⟨g4, g5⟩ := g2 (by omega)
    have hj : r.loc.toNat + i < (doN r bl i).length := by rw [doN_len, h16]; omega
    have hj' : r.loc.toNat + i < ((doN r bl i).set (r.loc.toNat + i) Z2).length := by rw [List.length_set]; exact hj
    have hw : IntKind.i64.wrap (r.loc + (i : Nat)) = r.loc + (i : Nat) := wrapI (by constructor <;> omega)
    have hia := ia_tB (bl := doN r bl i) (k := .i64) (a := r.loc + (i : Nat)) (j := r.loc.toNat + i) (by omega) hj
    have hia' := ia_tB (bl := (doN r bl i).set (r.loc.toNat + i) Z2) (k := .i64) (a := r.loc + (i : Nat)) (j := r.loc.toNat + i) (by omega) hj'
    rw [doN_len, h16] at hia
    rw [List.length_set, doN_len, h16] at hia'
    unfold P_spec_l3Do.l0
    have hz : (DV.str ⟨#[0, 0]⟩) = .str Z2 := rfl
    simp only [u6_list, qBin_lss, bd_some, qB_bool, Int.ofNat_lt, hi, decide_true, cond_true, qBin_eql, qBin_add, qBin_mul, hw, hia, hz, st_tB hj]
    rw [wrapI (n := (i : Int) + 1) (by constructor <;> omega), wrapI (n := 2 * (i : Int)) (by constructor <;> omega), wrapI (n := 2 * (i : Int) + 2) (by constructor <;> omega)]
    by_cases hk : r.kind = 1
    · have := g3 hk
      simp only [hk, decide_true, cond_true]
      rw [qSs_ok r.data i _ _ rfl rfl (by omega)]
      simp only [bd_some, hia', st_tB hj', doN, piece, hk, if_true, List.set_set]
      rfl
    · simp only [hk, decide_false, cond_false]
      simp only [bd_some, doN, piece, hk, if_false]
      rfl
  · intro _ rec _
    unfold P_spec_l3Do.l0
    simp
def blank : List ByteArray := List.replicate 16 Z2
theorem blankS {N n : Nat} (hN : 4294967296 ≤ N) : run1 S_spec_l3Blank (qfn P N (n + 1) n_spec_l3Blank) [] = some ([.sl [.sc] (blank.map DV.str)], []) := by
  obtain ⟨M, rfl⟩ : ∃ M, N = M + 20 := ⟨N - 20, by omega⟩
  kernel_rfl
theorem blankI {N n : Nat} (hN : 4294967296 ≤ N) : run1 S_impl_emptyBlocks (qfn P N (n + 6) n_impl_emptyBlocks) [] = some ([.sl [.sc] (blank.map DV.str)], []) := by
  obtain ⟨M, rfl⟩ : ∃ M, N = M + 20 := ⟨N - 20, by omega⟩
  kernel_rfl
end Go.Lg.Pv.Q
namespace Go.Lg.Pv.Q
open Go Go.Lg Go.Lg.Pv
set_option linter.unusedVariables false
set_option linter.unusedSimpArgs false
set_option maxRecDepth 100000

def foldR (l : List Rec) (bl : List ByteArray) : List ByteArray := l.foldl (fun bl r => doN r bl r.long.toNat) bl
theorem foldR_len : ∀ (l : List Rec) (bl : List ByteArray), (foldR l bl).length = bl.length
  | [], bl => rfl
  | r :: l, bl => by
    have := foldR_len l (doN r bl r.long.toNat)
    rw [doN_len] at this
    exact this
def out (l : List Rec) : List ByteArray × Bool := if l.length ≤ 60 ∧ l.all good = true then (foldR l blank, true) else ([], false)
theorem out_len (l : List Rec) : (out l).1.length ≤ 16 := by
  unfold out
  split
  · rw [foldR_len]; decide
  · decide
theorem all_get {l : List Rec} (h : l.all good = true) {i : Nat} (hi : i < l.length) : good l[i] = true := List.all_eq_true.1 h _ (List.getElem_mem hi)
theorem res_own (bl : List ByteArray) (h16 : bl.length = 16) (b : Bool) : resO [[.sl [.sc]], [.sc]] [oB, .bool b] [tB bl] = some ([.sl [.sc] (bl.map DV.str), .bool b], kl [tB bl] 0) := by
  have hb : bk [tB bl] 0 0 = some (tB bl) := rfl
  have he : ((tB bl).el.drop 0).take 16 = bl.map DV.str := by simp only [tB, List.drop_zero]; exact List.take_of_length_le (by simp [h16])
  have hc : clL (bl.map DV.str) = true := clL_map (fun _ => rfl) bl
  simp only [resO, onS, List.headD_cons, tk_own hb rfl rfl he hc, Option.bind_some]
  rfl
theorem foldI {N n : Nat} (hN : 4294967296 ≤ N) (l : List Rec) (hlen : l.length ≤ 1048576) :
    run1 S_impl_FoldRecords (qfn P N (n + 7) n_impl_FoldRecords) [.sl shRec (l.map Rec.enc)] = some ([.sl [.sc] ((out l).1.map DV.str), .bool (out l).2], []) := by
  have hsa : ∀ μ : PH, cq S_impl_areAll_impl_Record (qfn P N (n + 6) n_impl_areAll_impl_Record) [.sl shRec (l.map Rec.enc), fGood] μ = some ([.bool (l.all good)], μ) := fun μ => by
    rw [cq_sn (args' := [.sl shRec (l.map Rec.enc), fGood]) rfl (by simp only [sns, S_impl_areAll_impl_Record, sn_cl _ _ (recs_cl l), sn_cl _ _ (show cl fGood = true from rfl), Option.bind_some]) (areAll_ok (n := n) hN l hlen) rfl, adL_sc rfl]
  have hbl : cq S_impl_emptyBlocks (qfn P N (n + 6) n_impl_emptyBlocks) [] [] = some ([oB], [tB blank]) := by
    rw [cq_sn (args' := []) rfl rfl (blankI (n := n) hN) rfl, adL_sl]; rfl
  by_cases hc : l.length ≤ 60 ∧ l.all good = true
  · have ho : out l = (foldR l blank, true) := by unfold out; rw [if_pos hc]
    rw [ho]
    have h16 : (foldR l blank).length = 16 := by rw [foldR_len]; rfl
    refine run1_of rfl rfl rfl (r := [oB, .bool true]) (ν := [tB (foldR l blank)]) ?_ (res_own _ h16 true)
    rw [impl_FoldRecords_eq]
    unfold P_impl_FoldRecords
    simp only [qLen_sl, List.length_map, bd_some, qBin_gtr, qB_bool, show ¬ ((l.length : Nat) : Int) > 60 by omega, decide_false, cond_false, List.length_nil, hsa, c1_some, u1_list, qUn_not, hc.2, Bool.not_true, hbl]
    refine (loop_acc (F := P_impl_FoldRecords.l0 N (qfn P N (n + 6)) 0) (N := N) (σ := List ByteArray) (len := l.length) (fun i _ => ([oB, .sl shRec (l.map Rec.enc), .int .i64 (l.length : Nat), .int .i64 (i : Nat)] : List DV)) (fun _ bl => [tB bl]) (fun _ bl => bl.length = 16) (fun i bl => some ([oB, DV.bool true], [tB (foldR (l.drop i) bl)]))
      ?_ ?_ l.length (i := 0) (s := blank) rfl (by omega) (by omega))
    · intro i bl rec hi hb16
      have hx : l.drop i = l[i] :: l.drop (i + 1) := List.drop_eq_getElem_cons hi
      have hd := do_ok (n := n + 5) hN hb16 (all_get hc.2 hi)
      refine .inl ⟨doN l[i] bl l[i].long.toNat, by rw [doN_len]; exact hb16, ?_, by rw [hx]; rfl⟩
      unfold P_impl_FoldRecords.l0
      simp only [u4_list, bd_some, qBin_lss, qB_bool, Int.ofNat_lt, hi, decide_true, cond_true, qIA_map _ (show shRec.length = 4 from rfl) hi, qLd_rp, Rec.get, Option.map_some, b2_some]
      unfold Rec.enc at hd ⊢
      simp only [a4_agg, hd, c0_some, qBin_add, bd_some]
      rw [wrapI (n := (i : Int) + 1) (by constructor <;> omega)]
      rfl
    · intro bl rec _
      unfold P_impl_FoldRecords.l0
      simp [foldR]
  · have ho : out l = ([], false) := by unfold out; rw [if_neg hc]
    rw [ho]
    refine run1_of rfl rfl rfl (r := [.nil, .bool false]) (ν := []) ?_ rfl
    rw [impl_FoldRecords_eq]
    unfold P_impl_FoldRecords
    by_cases h60 : l.length ≤ 60
    · have hg : l.all good = false := by
        cases h : l.all good
        · rfl
        · exact absurd ⟨h60, h⟩ hc
      simp only [qLen_sl, List.length_map, bd_some, qBin_gtr, qB_bool, show ¬ ((l.length : Nat) : Int) > 60 by omega, decide_false, cond_false, hsa, c1_some, u1_list, qUn_not, hg, Bool.not_false, cond_true]
    · simp only [qLen_sl, List.length_map, bd_some, qBin_gtr, qB_bool, show ((l.length : Nat) : Int) > 60 by omega, decide_true, cond_true]
theorem l3Fold_ok {N n : Nat} (hN : 4294967296 ≤ N) (l : List Rec) (h60 : l.length ≤ 60) (hg : l.all good = true) :
    run1 S_spec_l3Fold (qfn P N (n + 2) n_spec_l3Fold) [.sl shRec (l.map Rec.enc)] = some ([.sl [.sc] ((foldR l blank).map DV.str)], []) := by
  have hbl : cq S_spec_l3Blank (qfn P N (n + 1) n_spec_l3Blank) [] [] = some ([oB], [tB blank]) := by
    rw [cq_sn (args' := []) rfl rfl (blankS (n := n) hN) rfl, adL_sl]; rfl
  have h16 : (foldR l blank).length = 16 := by rw [foldR_len]; rfl
  have hr : resO [[.sl [.sc]]] [oB] [tB (foldR l blank)] = some ([.sl [.sc] ((foldR l blank).map DV.str)], kl [tB (foldR l blank)] 0) := by
    have hb : bk [tB (foldR l blank)] 0 0 = some (tB (foldR l blank)) := rfl
    have he : ((tB (foldR l blank)).el.drop 0).take 16 = (foldR l blank).map DV.str := by simp only [tB, List.drop_zero]; exact List.take_of_length_le (by simp [h16])
    have hc : clL ((foldR l blank).map DV.str) = true := clL_map (fun _ => rfl) _
    simp only [resO, onS, List.headD_cons, tk_own hb rfl rfl he hc, Option.bind_some]
    rfl
  refine run1_of rfl rfl rfl (r := [oB]) (ν := [tB (foldR l blank)]) ?_ hr
  rw [spec_l3Fold_eq]
  unfold P_spec_l3Fold
  simp only [qLen_sl, List.length_map, bd_some, List.length_nil, c1_some, u1_list, hbl]
  refine (loop_acc (F := P_spec_l3Fold.l0 N (qfn P N (n + 1)) 0) (N := N) (σ := List ByteArray) (len := l.length) (fun i _ => ([oB, .sl shRec (l.map Rec.enc), .int .i64 (l.length : Nat), .int .i64 (i : Nat)] : List DV)) (fun _ bl => [tB bl]) (fun _ bl => bl.length = 16) (fun i bl => some ([oB], [tB (foldR (l.drop i) bl)]))
    ?_ ?_ l.length (i := 0) (s := blank) rfl (by omega) (by omega))
  · intro i bl rec hi hb16
    have hx : l.drop i = l[i] :: l.drop (i + 1) := List.drop_eq_getElem_cons hi
    have hd := l3Do_ok (n := n) hN hb16 (all_get hg hi)
    refine .inl ⟨doN l[i] bl l[i].long.toNat, by rw [doN_len]; exact hb16, ?_, by rw [hx]; rfl⟩
    unfold P_spec_l3Fold.l0
    simp only [u4_list, bd_some, qBin_lss, qB_bool, Int.ofNat_lt, hi, decide_true, cond_true, qIA_map _ (show shRec.length = 4 from rfl) hi, qLd_rp, Rec.get, Option.map_some, b2_some]
    unfold Rec.enc at hd ⊢
    simp only [a4_agg, hd, c0_some, qBin_add, bd_some]
    rw [wrapI (n := (i : Int) + 1) (by constructor <;> omega)]
    rfl
  · intro bl rec _
    unfold P_spec_l3Fold.l0
    simp [foldR]
theorem foldS {N n : Nat} (hN : 4294967296 ≤ N) (l : List Rec) (hlen : l.length ≤ 1048576) :
    run1 S_spec_FoldRecords (qfn P N (n + 7) n_spec_FoldRecords) [.sl shRec (l.map Rec.enc)] = some ([.sl [.sc] ((out l).1.map DV.str), .bool (out l).2], []) := by
  have hsa : ∀ μ : PH, cq S_spec_l3Good (qfn P N (n + 6) n_spec_l3Good) [.sl shRec (l.map Rec.enc)] μ = some ([.bool (l.all good)], μ) := fun μ => by
    rw [cq_sn (args' := [.sl shRec (l.map Rec.enc)]) rfl (by simp only [sns, S_spec_l3Good, sn_cl _ _ (recs_cl l), Option.bind_some]) (l3Good_ok (n := n + 2) hN l hlen) rfl, adL_sc rfl]
  by_cases hc : l.length ≤ 60 ∧ l.all good = true
  · have ho : out l = (foldR l blank, true) := by unfold out; rw [if_pos hc]
    rw [ho]
    have h16 : (foldR l blank).length = 16 := by rw [foldR_len]; rfl
    refine run1_of rfl rfl rfl (r := [oB, .bool true]) (ν := [tB (foldR l blank)]) ?_ (res_own _ h16 true)
    rw [spec_FoldRecords_eq]
    unfold P_spec_FoldRecords
    simp only [qLen_sl, List.length_map, bd_some, qBin_gtr, qB_bool, show ¬ ((l.length : Nat) : Int) > 60 by omega, decide_false, cond_false, hsa, c1_some, u1_list, qUn_not, hc.2, Bool.not_true]
    rw [cq_sn (args' := [.sl shRec (l.map Rec.enc)]) rfl (by simp only [sns, S_spec_l3Fold, sn_cl _ _ (recs_cl l), Option.bind_some]) (l3Fold_ok (n := n + 4) hN l hc.1 hc.2) rfl, adL_sl]
    simp only [c1_some, u1_list, List.length_map, h16]
    rfl
  · have ho : out l = ([], false) := by unfold out; rw [if_neg hc]
    rw [ho]
    refine run1_of rfl rfl rfl (r := [.nil, .bool false]) (ν := []) ?_ rfl
    rw [spec_FoldRecords_eq]
    unfold P_spec_FoldRecords
    cases hg : l.all good
    · simp only [hsa, c1_some, u1_list, qUn_not, hg, bd_some, qB_bool, Bool.not_false, cond_true]
    · have h60 : ¬ l.length ≤ 60 := fun h => hc ⟨h, hg⟩
      simp only [hsa, c1_some, u1_list, qUn_not, hg, bd_some, qB_bool, Bool.not_true, cond_false, qLen_sl, List.length_map, qBin_gtr, show ((l.length : Nat) : Int) > 60 by omega, decide_true, cond_true]
end Go.Lg.Pv.Q
namespace Go.Lg.Pv.Q
open Go Go.Lg Go.Lg.Pv
set_option linter.unusedVariables false
set_option linter.unusedSimpArgs false
set_option maxRecDepth 100000

theorem own_all {b : PB} {l : List DV} {n : Nat} (h : b.el = l) (hn : n = l.length) : (b.el.drop 0).take n = l := by subst hn; rw [h]; simp
theorem txt_cl (l : List ByteArray) : clL (l.map DV.str) = true := clL_map (fun _ => rfl) l
theorem snT {μ : PH} {i m : Nat} {b : PB} {s : List Sh} {O : List ByteArray} (hi : bk μ i 0 = some b) (hs : b.sh = [.sc]) (he : b.el = O.map DV.str) (hm : m = O.length) : sn μ s (.own i 0 0 m m false) = some (.sl [.sc] (O.map DV.str)) := by
  rw [← hs]; exact sn_own hi (own_all he (by simp [hm])) (txt_cl O)
theorem snR {μ : PH} {i m : Nat} {b : PB} {s : List Sh} {l : List Rec} (hi : bk μ i 0 = some b) (hs : b.sh = shRec) (he : b.el = l.map Rec.enc) (hm : m = l.length) : sn μ s (.own i 0 0 m m false) = some (.sl shRec (l.map Rec.enc)) := by
  rw [← hs]; exact sn_own hi (own_all he (by simp [hm])) (clL_map Rec.cl l)
theorem snI (μ : PH) (s : List Sh) (k : IntKind) (a : Int) : sn μ s (.int k a) = some (.int k a) := sn_cl _ _ rfl
def cB (l : List Rec) : PB := ⟨0, shRec, l.map Rec.enc, true, false, true⟩
section
variable {N n : Nat} (hN : 4294967296 ≤ N)
include hN
theorem Q_to (l : List Rec) (hlen : l.length ≤ 1048576) (μ : PH) : cq S_laws_toRecordS (qfn P N (n + 8) n_laws_toRecordS) [.sl shRec (l.map Rec.enc)] μ = some ([.own μ.length 0 0 l.length l.length false], μ ++ [cB l]) := by
  rw [cq_sn (args' := [.sl shRec (l.map Rec.enc)]) rfl (by simp only [sns, S_laws_toRecordS, sn_cl _ _ (recs_cl l), Option.bind_some]) (toRecordS_ok (n := n + 6) hN l hlen) rfl, adL_sl]
  simp only [List.length_map]; rfl
theorem Q_spec (l : List Rec) (hlen : l.length ≤ 1048576) {μ : PH} {i : Nat} (hi : bk μ i 0 = some (cB l)) : cq S_spec_FoldRecords (qfn P N (n + 8) n_spec_FoldRecords) [.own i 0 0 l.length l.length false] μ = some ([.own μ.length 0 0 (out l).1.length (out l).1.length false, .bool (out l).2], μ ++ [tB (out l).1]) := by
  rw [cq_sn (args' := [.sl shRec (l.map Rec.enc)]) rfl (by simp only [sns, S_spec_FoldRecords, snR hi rfl rfl rfl, Option.bind_some]) (foldS (n := n + 1) hN l hlen) rfl]
  have : adL true μ [.sl [.sc] ((out l).1.map DV.str), .bool (out l).2] = ([.own μ.length 0 0 ((out l).1.map DV.str).length ((out l).1.map DV.str).length false, .bool (out l).2], μ ++ [tB (out l).1]) := rfl
  rw [this, List.length_map]
theorem Q_impl (l : List Rec) (hlen : l.length ≤ 1048576) {μ : PH} {i : Nat} (hi : bk μ i 0 = some (cB l)) : cq S_impl_FoldRecords (qfn P N (n + 8) n_impl_FoldRecords) [.own i 0 0 l.length l.length false] μ = some ([.own μ.length 0 0 (out l).1.length (out l).1.length false, .bool (out l).2], μ ++ [tB (out l).1]) := by
  rw [cq_sn (args' := [.sl shRec (l.map Rec.enc)]) rfl (by simp only [sns, S_impl_FoldRecords, snR hi rfl rfl rfl, Option.bind_some]) (foldI (n := n + 1) hN l hlen) rfl]
  have : adL true μ [.sl [.sc] ((out l).1.map DV.str), .bool (out l).2] = ([.own μ.length 0 0 ((out l).1.map DV.str).length ((out l).1.map DV.str).length false, .bool (out l).2], μ ++ [tB (out l).1]) := rfl
  rw [this, List.length_map]
theorem Q_eqS (O : List ByteArray) (hO : O.length ≤ 1048576) {μ : PH} {i j : Nat} (hi : bk μ i 0 = some (tB O)) (hj : bk μ j 0 = some (tB O)) : cq S_laws_eqStringS (qfn P N (n + 8) n_laws_eqStringS) [.own i 0 0 O.length O.length false, .own j 0 0 O.length O.length false] μ = some ([.bool true], μ) := by
  rw [cq_sn (args' := [.sl [.sc] (O.map DV.str), .sl [.sc] (O.map DV.str)]) rfl (by simp only [sns, S_laws_eqStringS, snT hi rfl rfl rfl, snT hj rfl rfl rfl, Option.bind_some]) (eqStringS_ok (n := n + 7) hN O O hO hO) rfl, adL_sc rfl]
  simp
theorem Q_eqR (l : List Rec) (hl : l.length ≤ 1048576) {μ : PH} {i j : Nat} (hi : bk μ i 0 = some (cB l)) (hj : bk μ j 0 = some (cB l)) : cq S_laws_eqRecordS (qfn P N (n + 8) n_laws_eqRecordS) [.own i 0 0 l.length l.length false, .own j 0 0 l.length l.length false] μ = some ([.bool true], μ) := by
  rw [cq_sn (args' := [.sl shRec (l.map Rec.enc), .sl shRec (l.map Rec.enc)]) rfl (by simp only [sns, S_laws_eqRecordS, snR hi rfl rfl rfl, snR hj rfl rfl rfl, Option.bind_some]) (eqRecordS_ok (n := n + 6) hN l l hl hl) rfl, adL_sc rfl]
  simp
theorem Q_held (m : Nat) (hm : m ≤ 1048576) {μ : PH} {i : Nat} (hi : bk μ i 0 = some (tB (marks 1 m))) : cq S_laws_heldStringS (qfn P N (n + 8) n_laws_heldStringS) [.own i 0 0 m m false, .int .i64 1] μ = some ([.int .i64 (1 + m)], μ) := by
  rw [cq_sn (args' := [.sl [.sc] ((marks 1 m).map DV.str), .int .i64 1]) rfl (by simp only [sns, S_laws_heldStringS, snT hi rfl rfl (marks_len 1 m).symm, snI, Option.bind_some]) (heldStringS_ok (n := n + 6) hN m 1 hm (by decide) (by decide)) rfl, adL_sc rfl]
theorem law_ok (l : List Rec) (hl : ∀ r ∈ l, r.ok) (hlen : (l.length : Int) ≤ 9223372036854775807) : ∃ μ', qfn P N (n + 9) n_laws_FnExactFoldRecords [.sl shRec (l.map Rec.enc)] [] = some ([.bool true], μ') := by
  rw [laws_FnExactFoldRecords_eq]
  unfold P_laws_FnExactFoldRecords
  rw [cq_sn (args' := [.sl shRec (l.map Rec.enc), .int .i64 1048576]) rfl (by simp only [sns, S_laws_szRecordS, sn_cl _ _ (recs_cl l), snI, Option.bind_some]) (szRecordS_ok (n := n + 6) hN l 1048576 (by decide) (by decide) hl hlen) rfl, adL_sc rfl]
  simp only [c1_some, u1_list, qBin_lss, bd_some, qB_bool]
  generalize hm : (if (1048576 : Int) - l.length < 0 then -1 else szRecs l (1048576 - l.length)) = m
  by_cases hneg : m < 0
  · exact ⟨_, by simp only [hneg, decide_true, cond_true]; rfl⟩
  have hlen' : l.length ≤ 1048576 := by
    by_cases h : (1048576 : Int) - l.length < 0
    · rw [if_pos h] at hm; omega
    · omega
  have ho := out_len l
  simp only [hneg, decide_false, cond_false]
  generalize hO : out l = o at ho
  rw [Q_to hN l hlen']
  simp only [c1_some, u1_list, List.nil_append, List.length_nil]
  rw [Q_spec hN l hlen' rfl, hO]
  simp only [c2_some, u2_list, List.length_cons, List.length_nil, List.cons_append, List.nil_append, Nat.zero_add]
  rw [Q_to hN l hlen']
  simp only [c1_some, u1_list, List.length_cons, List.length_nil, List.cons_append, List.nil_append, Nat.zero_add, Nat.reduceAdd]
  rw [Q_impl hN l hlen' rfl, hO]
  simp only [c2_some, u2_list, List.length_cons, List.length_nil, List.cons_append, List.nil_append, Nat.zero_add, Nat.reduceAdd]
  rw [Q_eqS hN o.1 (by omega) rfl rfl]
  simp only [c1_some, u1_list, qUn_not, bd_some, qB_bool, Bool.not_true, cond_false, qBin_bne, beq_self_eq_true]
  rw [Q_to hN l hlen']
  simp only [c1_some, u1_list, List.length_cons, List.length_nil, List.cons_append, List.nil_append, Nat.zero_add, Nat.reduceAdd]
  rw [Q_eqR hN l hlen' rfl rfl]
  simp only [c1_some, u1_list, qUn_not, bd_some, qB_bool, Bool.not_true, cond_false]
  rw [markRecordS_ok (n := n + 6) hN (id := 2) (b := cB l) rfl rfl rfl rfl hlen' (by decide) (by decide)]
  simp only [c1_some, u1_list, qBin_lss, bd_some, qB_bool, show ¬ ((1 : Int) + 4 * l.length < 0) by omega, decide_false, cond_false, List.set_cons_succ, List.set_cons_zero]
  rw [Q_eqS hN o.1 (by omega) rfl rfl]
  simp only [c1_some, u1_list, qUn_not, bd_some, qB_bool, Bool.not_true, cond_false, qBin_bne, beq_self_eq_true]
  rw [markStringS_ok (n := n + 6) hN (id := 3) (b := tB o.1) rfl rfl rfl rfl (by omega) (by decide) (by decide)]
  simp only [c1_some, u1_list, List.set_cons_succ, List.set_cons_zero]
  have hh : ∀ (a b c d : PB) (r : List PB), bk (a :: b :: c :: { tB o.1 with el := (marks 1 o.1.length).map DV.str } :: r) 3 0 = some (tB (marks 1 o.1.length)) := fun _ _ _ _ _ => rfl
  rw [Q_held hN o.1.length (by omega) rfl]
  simp only [c1_some, u1_list, qBin_lss, bd_some, qB_bool, show ¬ ((1 : Int) + o.1.length < 0) by omega, decide_false, cond_false, qBin_neq, ne_eq, not_true_eq_false]
  rw [Q_to hN l hlen']
  simp only [c1_some, u1_list, List.length_cons, List.length_nil, List.cons_append, List.nil_append, Nat.zero_add, Nat.reduceAdd]
  rw [Q_impl hN l hlen' rfl, hO]
  simp only [c2_some, u2_list, List.length_cons, List.length_nil, List.cons_append, List.nil_append, Nat.zero_add, Nat.reduceAdd]
  rw [Q_eqS hN o.1 (by omega) rfl rfl]
  simp only [c1_some, u1_list, qUn_not, bd_some, qB_bool, Bool.not_true, cond_false, qBin_bne, beq_self_eq_true]
  rw [Q_held hN o.1.length (by omega) rfl]
  simp only [c1_some, u1_list, qBin_lss, bd_some, qB_bool, show ¬ ((1 : Int) + o.1.length < 0) by omega, decide_false, cond_false, qBin_neq, ne_eq, not_true_eq_false]
  exact ⟨_, rfl⟩
end
end Go.Lg.Pv.Q
namespace Go.Proofs.Ytkamejfgfcbpaaa.fnExactFoldRecords
open Go.ChangeShapes Go.WideShapes Go.ChangeAt Go.RowKit
open Go.ChangeMaps (open_string shut_string)
open Go.Lg Go.Lg.Pv Go.Lg.Pv.Q
set_option linter.unusedVariables false
set_option maxRecDepth 100000
theorem own : ownKnob Try.prog.godebug = Option.none := by kernel_rfl
theorem laidOut : laidOutB Try.prog = true := by kernel_rfl
/-- records that are as they come in -/
structure RecK where
  r : Pv.Q.Rec
instance : Enc RecK where
  enc z := [.int .i64 z.r.kind, .int .i64 z.r.loc, .int .i64 z.r.long, .string z.r.data]
  good z := z.r.ok
  esz := 4
  eagg := true
  epos := by decide
  esc h := by cases h
  elen _ := rfl
  eones _ := fun v hv => by simp at hv; rcases hv with rfl | rfl | rfl | rfl <;> rfl
  edflt := ⟨rec0⟩
  egood := ⟨by constructor <;> decide, by constructor <;> decide, by constructor <;> decide, by decide⟩
theorem rec_elem {H : Type} {enc : TypeId × Value → H} {w : World} {base : Nat} {spare : Nat → Bool} {held : Bool} (fuel : Nat) (cs : List Value) (x : DataW H × List MemPlace)
    (h : DataW.trod enc Try.prog w base spare held fuel 96 cs = some x) : ∃ y : RecK, cs = Enc.enc y ∧ Enc.good y := by
  obtain ⟨xs, n, rfl, _, hl, hx, hf⟩ := DataW.trod_struct Try.underlying96 h
  have hc : Try.prog.cellsOf 96 = 4 := by kernel_rfl
  have h9 : Try.prog.cellsOf 9 = 1 := by kernel_rfl
  have h3 : Try.prog.cellsOf 3 = 1 := by kernel_rfl
  rw [hc] at hl
  match cs, hl with
  | [a, b, c, d], _ =>
    have f0 : DataW.trod enc Try.prog w base spare held n 3 (([a, b, c, d].drop 0).take (Try.prog.cellsOf 3)) = xs[0]? := hf 0 _ rfl
    have f1 : DataW.trod enc Try.prog w base spare held n 3 (([a, b, c, d].drop 1).take (Try.prog.cellsOf 3)) = xs[1]? := hf 1 _ rfl
    have f2 : DataW.trod enc Try.prog w base spare held n 3 (([a, b, c, d].drop 2).take (Try.prog.cellsOf 3)) = xs[2]? := hf 2 _ rfl
    have f3 : DataW.trod enc Try.prog w base spare held n 9 (([a, b, c, d].drop 3).take (Try.prog.cellsOf 9)) = xs[3]? := hf 3 _ rfl
    rw [h3, List.getElem?_eq_getElem (by rw [hx]; decide)] at f0
    rw [h3, List.getElem?_eq_getElem (by rw [hx]; decide)] at f1
    rw [h3, List.getElem?_eq_getElem (by rw [hx]; decide)] at f2
    rw [h9, List.getElem?_eq_getElem (by rw [hx]; decide)] at f3
    obtain ⟨m0, e0, _, g0⟩ := DataW.trod_int Try.underlying3 f0
    obtain ⟨m1, e1, _, g1⟩ := DataW.trod_int Try.underlying3 f1
    obtain ⟨m2, e2, _, g2⟩ := DataW.trod_int Try.underlying3 f2
    obtain ⟨s, e3, _, g3⟩ := DataW.trod_string Try.underlying9 f3
    have e0' : [a] = [.int .i64 m0] := e0
    have e1' : [b] = [.int .i64 m1] := e1
    have e2' : [c] = [.int .i64 m2] := e2
    have e3' : [d] = [.string s] := e3
    cases e0'
    cases e1'
    cases e2'
    cases e3'
    have k3 : (s.size : Int) ≤ 9223372036854775807 := by
      have : maxLen ≤ 9223372036854775807 := by decide
      omega
    have kk : ∀ m : Int, (Lit.int .i64 m).wf = true → inI m := fun m g => by
      simp only [Lit.wf, IntKind.min, IntKind.max, IntKind.signed, IntKind.bits] at g
      simp at g
      constructor <;> omega
    exact ⟨⟨⟨m0, m1, m2, s⟩⟩, rfl, kk _ g0, kk _ g1, kk _ g2, k3⟩

theorem walk {H : Type} {enc : TypeId × Value → H} {spare : Nat → Bool} {held : Bool} {base base2 : Nat} (w : World) (v0 : Value) {d : DataW H} {p : List MemPlace} (hv : Value.okWide Try.prog w .any base2 22 v0) (h : DataW.Trod enc Try.prog w base spare held 22 v0 d p) :
    Calls Try.prog 3 #[v0] w fun e w' => e = .returned (.bool true) ∧ Below w.heap.size w w' := by
  obtain ⟨fuel, hf⟩ := h
  simp only [Value.okWide, Try.underlying22] at hv
  cases v0 <;> try (simp [Cell.okWide, Try.underlying22, Cell.ok] at hv; done)
  rename_i sa sn sc
  obtain ⟨v', zs, σ, π, v, hv1, hr, hro, _, _, hvr, hrd, hlen⟩ := open_list (α := RecK) (e := 96) rec_elem (fun y c hc => by
      simp only [Enc.enc, List.mem_cons, List.not_mem_nil, or_false] at hc
      rcases hc with rfl | rfl | rfl | rfl <;> rfl) (by kernel_rfl) Try.underlying22 hf (fun ad n c he => by
      cases he
      simp only [Cell.okWide, Try.underlying22, Cell.ok] at hv
      obtain ⟨_, _, _, hsp, row, cells, hshape, _⟩ := hv
      refine ⟨hsp, ?_⟩
      unfold World.shape? at hshape
      rcases Nat.lt_or_ge ad.block w.heap.size with h' | h'
      · exact h'
      · rw [Array.getElem?_eq_none h'] at hshape; cases hshape) (HRel.empty w) ReadOnly.empty
  cases hv1
  have htv := tv_list (f := fun x : RecK => x.r.enc) (sh := shRec) hro hr.mdom hrd (fun x c hc => by
      simp only [Enc.enc, List.mem_cons, List.not_mem_nil, or_false] at hc
      rcases hc with rfl | rfl | rfl | rfl <;> rfl) (fun x => rfl) rfl
  have hgood : ∀ r ∈ zs.map RecK.r, r.ok := fun r hr => by
    obtain ⟨x, hx, rfl⟩ := List.mem_map.1 hr
    obtain ⟨i, hi⟩ := List.getElem?_of_mem hx
    rcases hrd with ⟨rfl, _⟩ | ⟨_, _, _, _, _, _, _, _, hall⟩
    · cases hx
    · exact (hall i x hi).2
  obtain ⟨μ', hq⟩ := law_ok (N := 4294967296) (n := 0) (by decide) (zs.map RecK.r) hgood (by simpa using hlen)
  rw [List.map_map] at hq
  obtain ⟨σ', hres⟩ := law_ev (goodOf (tis := tis) rfl (by kernel_rfl)) hr.mdom hq (.cons htv .nil)
  refine law_walk_bool envE eqE hres hr hro (.cons ?_ .nil)
  exact hvr

theorem lifted (os : Os) (started : os.Started) (H : Type) (enc : TypeId × Value → H) :
    ReturnsInHanded {} Try.checked os 3 .any (Rows.fnExactFoldRecordsSpec.pre6 enc Try.prog Try.f3 Rows.fnExactFoldRecordsRow.domain false) (Rows.fnExactFoldRecordsSpec.post enc Try.prog Try.f3 false true false false) := by
  refine returnsInHanded_of_change_sized (C := Try.checked) own started (by kernel_rfl) Try.func3
    (ChangeSpec.witness6 (enc := enc) (C := Try.checked) false ⟨#[], #[.slice Option.none 0 0], []⟩ 8 (by kernel_rfl) (by kernel_rfl) (by kernel_rfl) (by kernel_rfl)) ?_
  intro W base args ds gs before hval0 hW hcnd hsz0 _
  have hval : ∀ (j : Nat) t v, Try.f3.params[j]? = some t → args[j]? = some v → Value.okWide Try.prog W .any base t v := hval0
  have hW' := hW
  obtain ⟨p, q, hA0, hV, rfl, hfz, hnd⟩ := hW
  have hA : DataW.TrodAll enc Try.prog W 0 (fun _ => true) true Try.f3.params.toList args.toList ds p := hA0
  rw [Try.params3] at hA hval
  obtain ⟨v0, vs0, d0, ds0, p0, q0, hargs, rfl, rfl, h0, r0⟩ := trodAll_cons hA
  obtain ⟨rfl, rfl, rfl⟩ := trodAll_nil r0
  obtain rfl : args = #[v0] := by cases args; simp_all
  obtain ⟨rfl, rfl⟩ := trodVars_none hV
  have k0 := h0
  have lt0 : ∀ x ∈ p0, x.block < W.heap.size := by obtain ⟨m, hm⟩ := k0; exact DataW.trod_lt m _ _ _ hm
  refine (walk W v0 (hval 0 22 v0 rfl rfl) h0).mono fun e W' ⟨he, bel⟩ => ?_
  subst he
  exact ⟨_, rfl, _, _, _, [], _, [], hW', trodAll_mk1 (shut_bool Try.underlying4 _), (trodAll_cons_mk (Below.trod laidOut (by kernel_rfl) (of_decide_eq_true (by kernel_rfl)) k0 bel lt0) trodAll_mk0), rfl, bel.frame _, fun h => by cases h⟩
theorem over : Rows.fnExactFoldRecordsRow.holds Try.pinned (OpenSpec.ofChange Rows.fnExactFoldRecordsSpec) :=
  OpenClaim.holds_of_wide 3 Try.f3 rfl rfl rfl rfl rfl rfl rfl ⟨rfl, rfl, rfl, rfl, rfl⟩ rfl rfl rfl rfl rfl (by kernel_rfl) Try.func3 (by kernel_rfl)
    (of_decide_eq_true (by kernel_rfl)) (by unfold Func.isWrapper; first | (rw [if_pos (by decide +kernel)]; kernel_rfl) | (rw [if_neg (by decide +kernel)]; exact ⟨rfl, rfl⟩))
    (fun os started H enc _ => lifted os started H enc)
theorem proved : Rows.FnExactFoldRecordsSaid := over
end Go.Proofs.Ytkamejfgfcbpaaa.fnExactFoldRecords
namespace Go.Proofs.Ytkamejfgfcbpaaa
theorem fnExactFoldRecords_holds : Rows.FnExactFoldRecordsSaid := fnExactFoldRecords.proved
end Go.Proofs.Ytkamejfgfcbpaaa
#print axioms Go.Proofs.Ytkamejfgfcbpaaa.fnExactFoldRecords_holds
