/- FnExactBlocksIn returns true whatever volume it is handed, and what it was handed reads behind the call as it read before: no condition. -/
import Derived.Test.YtkamejfgfcbpaaaPackD
import Derived.Test.YtkamejfgfcbpaaaPS0
import Derived.Test.YtkamejfgfcbpaaaRows
import Derived.WalkKit
import Derived.ProofKit
import Derived.OpenShut
import Derived.ShutString
import Derived.ChangeOld
import Derived.Below
import Derived.SizedLaws
namespace Go.Lg.Pv.Q
open Go Go.Lg Go.Lg.Pv
set_option linter.unusedVariables false
set_option linter.unusedSimpArgs false

structure Rec where
  kind : Int
  loc : Int
  long : Int
  data : ByteArray
def Rec.enc (r : Rec) : DV := .agg [.int .i64 r.kind, .int .i64 r.loc, .int .i64 r.long, .str r.data]
abbrev shRec : List Sh := [.sc, .sc, .sc, .sc]
def Rec.ok (r : Rec) : Prop := inI r.kind ∧ inI r.loc ∧ inI r.long ∧ (r.data.size : Int) ≤ 9223372036854775807
theorem Rec.get (r : Rec) : getC (cellsD r.enc) 0 4 true = some r.enc := rfl
theorem Rec.cl (r : Rec) : cl r.enc = true := rfl
theorem recs_cl (l : List Rec) : Pv.cl (.sl shRec (l.map Rec.enc)) = true := by simp only [Pv.cl]; exact clL_map Rec.cl l
def szRec (r : Rec) (left : Int) : Int := if left - r.data.size < 0 then -1 else left - r.data.size
theorem szRecord_ok {N n : Nat} (r : Rec) (left : Int) (h0 : 0 ≤ left) (h1 : left ≤ 1048576) (hr : r.ok) :
    run1 S_laws_szRecord (qfn P N (n + 1) n_laws_szRecord) [r.enc, .int .i64 left] = some ([.int .i64 (szRec r left)], []) := by
  have hr := hr.2.2.2
  refine run1_of (ν := []) rfl rfl rfl (r := [.int .i64 (szRec r left)]) ?_ (resO_sc rfl)
  rw [laws_szRecord_eq]
  unfold P_laws_szRecord Rec.enc szRec
  simp
  rw [wrapI (n := left - (r.data.size : Nat)) (by constructor <;> omega)]
  split <;> rfl
def szRecs : List Rec → Int → Int
  | [], left => left
  | r :: l, left => if szRec r left < 0 then -1 else szRecs l (szRec r left)
theorem szRec_le {r : Rec} {left : Int} (h : ¬ szRec r left < 0) : 0 ≤ szRec r left ∧ szRec r left + r.data.size = left := by
  unfold szRec at h ⊢; split <;> rename_i h'
  · rw [if_pos h'] at h; exact absurd (by decide) h
  · omega
theorem szRecs_le : ∀ {l : List Rec} {left : Int}, ¬ szRecs l left < 0 → ∀ r ∈ l, (r.data.size : Int) ≤ left
  | r :: l, left, h, x, hx => by
    simp only [szRecs] at h
    split at h <;> rename_i h'
    · exact absurd (by decide) h
    · have := szRec_le h'
      rcases List.mem_cons.1 hx with rfl | hx
      · omega
      · have := szRecs_le h x hx; omega
theorem szRecordS_ok {N n : Nat} (hN : 4294967296 ≤ N) (l : List Rec) (left : Int) (h0 : 0 ≤ left) (h1 : left ≤ 1048576) (hl : ∀ r ∈ l, r.ok) (hlen : (l.length : Int) ≤ 9223372036854775807) :
    run1 S_laws_szRecordS (qfn P N (n + 2) n_laws_szRecordS) [.sl shRec (l.map Rec.enc), .int .i64 left] = some ([.int .i64 (if left - l.length < 0 then -1 else szRecs l (left - l.length))], []) := by
  refine run1_of (ν := []) rfl rfl rfl (r := [.int .i64 (if left - l.length < 0 then -1 else szRecs l (left - l.length))]) ?_ (resO_sc rfl)
  rw [laws_szRecordS_eq]
  unfold P_laws_szRecordS
  simp
  rw [wrapI (n := left - (l.length : Nat)) (by constructor <;> omega)]
  split <;> rename_i hlt
  · rfl
  refine (loop_acc (σ := Int) (len := l.length) (fun i left => ([.sl shRec (l.map Rec.enc), .int .i64 left, .int .i64 (i : Nat)] : List DV)) (fun _ _ => []) (fun _ left => 0 ≤ left ∧ left ≤ 1048576) (fun i left => some ([DV.int .i64 (szRecs (l.drop i) left)], []))
    ?_ ?_ l.length (i := 0) (s := left - l.length) ⟨by omega, by omega⟩ (by omega) (by omega)).trans (by simp)
  · intro i left rec hi ⟨g0, g1⟩
    have hx : l.drop i = l[i] :: l.drop (i + 1) := List.drop_eq_getElem_cons hi
    unfold P_laws_szRecordS.l0
    rw [hx]
    simp only [u3_list, qLen_sl, List.length_map, bd_some, qBin_lss, qB_bool, Int.ofNat_lt, hi, decide_true, cond_true, qIA_map _ (show shRec.length = 4 from rfl) hi, qLd_rp, Rec.get]
    simp only [Option.map_some, b2_some]
    rw [cq_sn (args' := [l[i].enc, .int .i64 left]) rfl (by simp [sns, S_laws_szRecord, sn_cl _ _ (Rec.cl _), sn_cl _ _ (show cl (.int .i64 left) = true from rfl)]) (szRecord_ok l[i] left g0 g1 (hl _ (List.getElem_mem hi))) rfl]
    rw [adL_sc rfl]
    simp only [c1_some, bd_some, qBin_lss, qB_bool]
    by_cases hs : szRec l[i] left < 0
    · refine .inr ?_
      simp [szRecs, hs]
    · refine .inl ⟨szRec l[i] left, ?_, ?_, ?_⟩
      · have := szRec_le hs; omega
      · have hb : (l.length : Int) ≤ 1048576 := by omega
        simp only [u1_list, bd_some, qBin_lss, qB_bool, hs, decide_false, cond_false, qBin_add]
        rw [wrapI (n := (i : Int) + 1) (by constructor <;> omega)]
        rfl
      · simp [szRecs, hs]
  · intro left rec _
    unfold P_laws_szRecordS.l0
    simp [szRecs]
end Go.Lg.Pv.Q
namespace Go.Lg.Pv.Q
open Go Go.Lg Go.Lg.Pv
set_option linter.unusedVariables false
set_option linter.unusedSimpArgs false

theorem toRecord_ok {N n : Nat} (r : Rec) : run1 S_laws_toRecord (qfn P N (n + 1) n_laws_toRecord) [r.enc] = some ([r.enc], []) := by
  refine run1_of (ν := []) rfl rfl rfl (r := [r.enc]) ?_ (resO_agg rfl)
  rw [laws_toRecord_eq]
  unfold P_laws_toRecord Rec.enc
  simp
def rec0 : Rec := ⟨0, 0, 0, ⟨#[]⟩⟩
/-- the block of a copy -/
def cpB (l : List Rec) (i : Nat) : PB := ⟨0, shRec, (pre l rec0 i).map Rec.enc, true, false, true⟩
theorem adL_rec (μ : PH) (r : Rec) : adL true μ [r.enc] = ([r.enc], μ) := adL_agg rfl
theorem toRecordS_ok {N n : Nat} (hN : 4294967296 ≤ N) (l : List Rec) (hlen : l.length ≤ 1048576) :
    run1 S_laws_toRecordS (qfn P N (n + 2) n_laws_toRecordS) [.sl shRec (l.map Rec.enc)] = some ([.sl shRec (l.map Rec.enc)], []) := by
  refine run1_of (ν := [cpB l l.length]) (ν' := kl [cpB l l.length] 0) rfl rfl rfl (r := [.own 0 0 0 l.length l.length true]) ?_ ?_
  · rw [laws_toRecordS_eq]
    unfold P_laws_toRecordS
    have h1 : (l.length : Int) * 40 ≤ 140737488355328 := by omega
    have h2 : (l.length : Int) ≤ 9223372036854775807 := by omega
    have hms : qMS [] [.sc, .sc, .sc, .sc] true [.int .i64 0, .int .i64 0, .int .i64 0, .str ⟨#[]⟩] 4 40 (.int .i64 l.length) (.int .i64 l.length) = some (.own 0 0 0 l.length l.length true, [cpB l 0]) := by
      simp [qMS, h1, h2, cpB, pre_zero, okC, isSc]
      exact .inr rfl
    simp only [qLen_sl, bd_some, List.length_map, hms, b2_some]
    refine (loop_acc (σ := Unit) (len := l.length) (fun i _ => ([.sl shRec (l.map Rec.enc), .own 0 0 0 l.length l.length true, .int .i64 (i : Nat)] : List DV)) (fun i _ => [cpB l i]) (fun _ _ => True) (fun i _ => some ([DV.own 0 0 0 l.length l.length true], [cpB l l.length]))
      ?_ ?_ l.length (i := 0) (s := ()) trivial (by omega) (by omega))
    · intro i _ rec hi _
      refine .inl ⟨(), trivial, ?_, rfl⟩
      unfold P_laws_toRecordS.l0
      simp only [u3_list, qLen_sl, List.length_map, bd_some, qBin_lss, qB_bool, Int.ofNat_lt, hi, decide_true, cond_true, qIA_map _ (show shRec.length = 4 from rfl) hi, qLd_rp, Rec.get]
      simp only [Option.map_some, b2_some]
      rw [cq_sn (args' := [l[i].enc]) rfl (by simp [sns, S_laws_toRecord, sn_cl _ _ (Rec.cl _)]) (toRecord_ok l[i]) rfl, adL_rec]
      have hb : bk [cpB l i] 0 0 = some (cpB l i) := rfl
      have hg : (cpB l i).el[i]? = some ((pre l rec0 i)[i]'(by rw [pre_len _ _ _ (by omega)]; exact hi)).enc := by simp [cpB, pre_len _ _ _ (Nat.le_of_lt hi), hi]
      simp only [u1_list, c1_some, qIA_own (size := 4) hb rfl hi (show (cpB l i).sh.length = 4 from rfl), bd_some, Nat.zero_add]
      rw [qSt_ptr (size := 4) (cs := [.int .i64 l[i].kind, .int .i64 l[i].loc, .int .i64 l[i].long, .str l[i].data]) hb hg rfl (Nat.le_refl 4) rfl]
      simp only [bd_some, qBin_add]
      rw [wrapI (n := (i : Int) + 1) (by constructor <;> omega)]
      have : ([cpB l i].set 0 { cpB l i with el := (cpB l i).el.set i l[i].enc }) = [cpB l (i + 1)] := by
        simp [cpB, ← pre_set l rec0 i hi, List.map_set]
      exact congrArg (rec _) this
    · intro _ rec _
      unfold P_laws_toRecordS.l0
      simp
  · have hb : bk [cpB l l.length] 0 0 = some (cpB l l.length) := rfl
    have he : ((cpB l l.length).el.drop 0).take l.length = l.map Rec.enc := by simp only [cpB, pre_last, List.drop_zero]; exact List.take_of_length_le (by simp)
    have hc : clL (l.map Rec.enc) = true := clL_map Rec.cl l
    simp only [resO, S_laws_toRecordS, onS, tk_own hb rfl rfl he hc, Option.bind_some]
    rfl

theorem eqStringS_ok {N n : Nat} (hN : 4294967296 ≤ N) (a b : List ByteArray) (ha : a.length ≤ 1048576) (hb : b.length ≤ 1048576) :
    run1 S_laws_eqStringS (qfn P N (n + 1) n_laws_eqStringS) [.sl [.sc] (a.map DV.str), .sl [.sc] (b.map DV.str)] = some ([.bool (decide (a = b))], []) := by
  refine run1_of (ν := []) rfl rfl rfl (r := [.bool (decide (a = b))]) ?_ (resO_sc rfl)
  rw [laws_eqStringS_eq]
  unfold P_laws_eqStringS
  simp
  by_cases hl : ¬ a.length = b.length
  · have : a ≠ b := fun h => hl (by rw [h])
    simp [this, show ¬ ((a.length : Int) = b.length) by omega]
  have hl := Decidable.of_not_not hl
  simp [hl]
  refine (loop_acc (σ := Unit) (len := a.length) (fun i _ => ([.sl [.sc] (a.map DV.str), .sl [.sc] (b.map DV.str), .int .i64 (i : Nat)] : List DV)) (fun _ _ => []) (fun _ _ => True) (fun i _ => some ([DV.bool (decide (a.drop i = b.drop i))], []))
    ?_ ?_ a.length (i := 0) (s := ()) trivial (by omega) (by omega)).trans (by simp)
  · intro i _ rec hi _
    have hi' : i < b.length := by omega
    have hx := drop_eq hi hi'
    unfold P_laws_eqStringS.l0
    simp [hi, hi']
    by_cases hs : a[i] = b[i]
    · refine .inl ?_
      rw [wrapI (n := (i : Int) + 1) (by constructor <;> omega)]
      simp [hx, hs]
    · refine .inr ?_
      simp [hx, hs]
  · intro _ rec _
    unfold P_laws_eqStringS.l0
    simp [hl]
theorem Rec.ext_iff' (a b : Rec) : (a = b) ↔ a.kind = b.kind ∧ a.loc = b.loc ∧ a.long = b.long ∧ a.data = b.data := by cases a; cases b; simp
instance : DecidableEq Rec := fun a b => decidable_of_iff _ (Rec.ext_iff' a b).symm
theorem eqRecord_ok {N n : Nat} (a b : Rec) : run1 S_laws_eqRecord (qfn P N (n + 1) n_laws_eqRecord) [a.enc, b.enc] = some ([.bool (decide (a = b))], []) := by
  refine run1_of (ν := []) rfl rfl rfl (r := [.bool (decide (a = b))]) ?_ (resO_sc rfl)
  rw [laws_eqRecord_eq]
  unfold P_laws_eqRecord Rec.enc
  by_cases h1 : a.kind = b.kind <;> by_cases h2 : a.loc = b.loc <;> by_cases h3 : a.long = b.long <;> by_cases h4 : a.data = b.data <;> simp [Rec.ext_iff', h1, h2, h3, h4]
theorem eqRecordS_ok {N n : Nat} (hN : 4294967296 ≤ N) (a b : List Rec) (ha : a.length ≤ 1048576) (hb : b.length ≤ 1048576) :
    run1 S_laws_eqRecordS (qfn P N (n + 2) n_laws_eqRecordS) [.sl shRec (a.map Rec.enc), .sl shRec (b.map Rec.enc)] = some ([.bool (decide (a = b))], []) := by
  refine run1_of (ν := []) rfl rfl rfl (r := [.bool (decide (a = b))]) ?_ (resO_sc rfl)
  rw [laws_eqRecordS_eq]
  unfold P_laws_eqRecordS
  simp
  by_cases hl : ¬ a.length = b.length
  · have : a ≠ b := fun h => hl (by rw [h])
    simp [this, show ¬ ((a.length : Int) = b.length) by omega]
  have hl := Decidable.of_not_not hl
  simp [hl]
  refine (loop_acc (σ := Unit) (len := a.length) (fun i _ => ([.sl shRec (a.map Rec.enc), .sl shRec (b.map Rec.enc), .int .i64 (i : Nat)] : List DV)) (fun _ _ => []) (fun _ _ => True) (fun i _ => some ([DV.bool (decide (a.drop i = b.drop i))], []))
    ?_ ?_ a.length (i := 0) (s := ()) trivial (by omega) (by omega)).trans (by simp)
  · intro i _ rec hi _
    have hi' : i < b.length := by omega
    have hx := drop_eq hi hi'
    unfold P_laws_eqRecordS.l0
    simp only [u3_list, qLen_sl, List.length_map, bd_some, qBin_lss, qB_bool, Int.ofNat_lt, hi, decide_true, cond_true, qIA_map _ (show shRec.length = 4 from rfl) hi, qIA_map _ (show shRec.length = 4 from rfl) hi', qLd_rp, Rec.get, Option.map_some, b2_some]
    rw [cq_sn (args' := [a[i].enc, b[i].enc]) rfl (by simp [sns, S_laws_eqRecord, sn_cl _ _ (Rec.cl _)]) (eqRecord_ok a[i] b[i]) rfl, adL_sc rfl]
    by_cases hs : a[i] = b[i]
    · refine .inl ⟨(), trivial, ?_, ?_⟩
      · simp [hx, hs]
        rw [wrapI (n := (i : Int) + 1) (by constructor <;> omega)]
      · simp [hx, hs]
    · refine .inr ?_
      simp [hx, hs]
  · intro _ rec _
    unfold P_laws_eqRecordS.l0
    simp [hl]
end Go.Lg.Pv.Q
namespace Go.Lg.Pv.Q
open Go Go.Lg Go.Lg.Pv
set_option linter.unusedVariables false
set_option linter.unusedSimpArgs false

def chr (k : Int) : ByteArray := ⟨#[UInt8.ofNat (IntKind.u8.wrap (IntKind.i64.wrap (48 + k.tmod 10))).toNat]⟩
def dg : Nat → Int → ByteArray → ByteArray
  | 0, _, out => out
  | f + 1, k, out => if k > 0 then dg f (k.tdiv 10) (chr k ++ out) else out
def mark (k : Int) : ByteArray := ⟨#[109]⟩ ++ dg 13 k ⟨#[]⟩
theorem mark_loop {N : Nat} {call : CW} (bs : Nat) (μ : PH) : ∀ (f M : Nat) (k : Int) (out : ByteArray), k < (10 : Int) ^ f → f < M → out.size + f ≤ 1000 → k ≤ 9223372036854775807 →
    iterD (P_laws_markText.l0 N call bs) M [.int .i64 k, .str out] μ = some ([.str (⟨#[109]⟩ ++ dg f k out)], μ)
  | 0, M, k, out, hk, hM, ho, hi => by
    obtain ⟨M, rfl⟩ : ∃ m, M = m + 1 := ⟨M - 1, by omega⟩
    have hk : ¬ k > 0 := by simp at hk; omega
    simp only [iterD]
    unfold P_laws_markText.l0
    simp [hk, dg]
    rw [qBin_sadd _ _ _ _ (by have : (⟨#[109]⟩ : ByteArray).size = 1 := rfl; omega)]
    rfl
  | f + 1, M, k, out, hk, hM, ho, hi => by
    obtain ⟨M, rfl⟩ : ∃ m, M = m + 1 := ⟨M - 1, by omega⟩
    simp only [iterD]
    unfold P_laws_markText.l0
    by_cases h : k > 0
    · have hq : k.tdiv 10 = k / 10 := Int.tdiv_eq_ediv_of_nonneg (by omega)
      simp only [u2_list, qBin_gtr, bd_some, qB_bool, h, decide_true, cond_true, qBin_rem _ _ _ k 10 (by decide), qBin_add, qInt_int]
      have h1 : ∀ v : Int, qBS μ true [.sc] false [.int .u8 0] 1 1 [(0, .int .u8 v)] = some (.sl [.sc] [.int .u8 v], μ) := fun v => rfl
      have h2 : ∀ v : Int, qB2S μ (.sl [.sc] [.int .u8 v]) = some (.str ⟨#[UInt8.ofNat v.toNat]⟩) := fun v => rfl
      simp only [h1, b2_some, h2, bd_some]
      have hs : (chr k).size = 1 := rfl
      have h3 : qBin μ .str .add (.str ⟨#[UInt8.ofNat (IntKind.u8.wrap (IntKind.i64.wrap (48 + k.tmod 10))).toNat]⟩) (.str out) = some (.str (chr k ++ out)) :=
        qBin_sadd μ .str (chr k) out (by omega)
      rw [h3]
      simp only [bd_some, qBin_quo _ _ _ k 10 (by decide)]
      have hb : k.tdiv 10 < (10 : Int) ^ f := by
        rw [hq]; rw [Int.pow_succ] at hk; omega
      have hr : IntKind.i64.wrap (k.tdiv 10) = k.tdiv 10 := by
        rw [hq]; exact wrapI (by constructor <;> omega)
      rw [hr]
      refine (mark_loop (N := N) (call := call) bs μ f M _ _ hb (by omega) (by rw [ByteArray.size_append]; omega) (by rw [hq]; omega)).trans ?_
      simp [dg, h]
    · simp [h, dg]
      rw [qBin_sadd _ _ _ _ (by have : (⟨#[109]⟩ : ByteArray).size = 1 := rfl; omega)]
      rfl
theorem markText_ok {N n : Nat} (hN : 4294967296 ≤ N) (k : Int) (h0 : 0 < k) (h1 : k < 10000000000000) :
    run1 S_laws_markText (qfn P N (n + 1) n_laws_markText) [.int .i64 k] = some ([.str (mark k)], []) := by
  refine run1_of (ν := []) rfl rfl rfl (r := [.str (mark k)]) ?_ (resO_sc rfl)
  rw [laws_markText_eq]
  unfold P_laws_markText
  simp only [qBin_leq, bd_some, qB_bool, show ¬ k ≤ 0 by omega, decide_false, cond_false]
  exact mark_loop 0 [] 13 N k _ (by simpa using h1) (by omega) (by decide) (by omega)
theorem cq_mark {N n : Nat} (hN : 4294967296 ≤ N) (μ : PH) (k : Int) (h0 : 0 < k) (h1 : k < 10000000000000) :
    cq S_laws_markText (qfn P N (n + 1) n_laws_markText) [.int .i64 k] μ = some ([.str (mark k)], μ) := by
  rw [cq_sn (args' := [.int .i64 k]) rfl rfl (markText_ok hN k h0 h1) rfl, adL_sc rfl]
def marks (k : Int) (n : Nat) : List ByteArray := (List.range n).map fun i => mark (k + (i : Nat))
theorem marks_len (k : Int) (n : Nat) : (marks k n).length = n := by simp [marks]
theorem marks_get (k : Int) (n i : Nat) (h : i < (marks k n).length) : (marks k n)[i] = mark (k + (i : Nat)) := by simp [marks]

theorem markStringS_ok {N n : Nat} (hN : 4294967296 ≤ N) {μ : PH} {id ver c : Nat} {x : Bool} {b : PB} {xs : List ByteArray} {k : Int} (hb : bk μ id ver = some b) (hel : b.el = xs.map DV.str) (hsh : b.sh = [.sc]) (hop : b.op = false)
    (hn : xs.length ≤ 1048576) (h0 : 0 < k) (h1 : k ≤ 100000000) :
    qfn P N (n + 2) n_laws_markStringS [.own id ver 0 xs.length c x, .int .i64 k] μ = some ([.int .i64 (k + xs.length)], μ.set id { b with el := (marks k xs.length).map DV.str }) := by
  have hid : id < μ.length := bk_lt hb
  have hlv := (bk_some hb).2
  rw [laws_markStringS_eq]
  unfold P_laws_markStringS
  have hm0 : μ = μ.set id { b with el := (mix (marks k xs.length) xs 0).map DV.str } := by
    rw [mix_zero, ← hel]; exact (bk_self hb).symm
  have hml := marks_len k xs.length
  conv => lhs; rw [hm0]
  refine Eq.trans (by simp) (loop_acc (F := P_laws_markStringS.l0 N (qfn P N (n + 1)) μ.length) (N := N) (σ := Unit) (len := xs.length) (fun i _ => ([.own id ver 0 xs.length c x, .int .i64 (k + (i : Nat)), .int .i64 (i : Nat)] : List DV)) (fun i _ => μ.set id { b with el := (mix (marks k xs.length) xs i).map DV.str })
    (fun _ _ => True) (fun i _ => some ([DV.int .i64 (k + xs.length)], μ.set id { b with el := (marks k xs.length).map DV.str })) ?_ ?_ xs.length (i := 0) (s := ()) trivial (by omega) (by omega))
  · intro i _ rec hi _
    refine .inl ⟨(), trivial, ?_, rfl⟩
    have hbk : bk (μ.set id { b with el := (mix (marks k xs.length) xs i).map DV.str }) id ver = some { b with el := (mix (marks k xs.length) xs i).map DV.str } := by
      have := bk_set (μ := μ) (b := { b with el := (mix (marks k xs.length) xs i).map DV.str }) hid hlv.1
      rw [← hlv.2]; exact this
    unfold P_laws_markStringS.l0
    simp only [u3_list, qLen_own hbk, bd_some, qBin_lss, qB_bool, Int.ofNat_lt, hi, decide_true, cond_true, cq_mark hN _ (k + (i : Nat)) (by omega) (by omega), c1_some, u1_list]
    have hi' : i < (marks k xs.length).length := by omega
    simp only [qIA_own (size := 1) hbk rfl hi (by rw [hsh]; rfl), bd_some, Nat.zero_add]
    rw [qSt_ptr (size := 1) (cs := [.str (mark (k + (i : Nat)))]) hbk (e := .str xs[i]) (by rw [List.getElem?_map, mix_get hml hi']; rfl) rfl (Nat.le_refl 1) (by rw [hop, hsh]; rfl)]
    simp only [bd_some, qBin_add]
    rw [wrapI (n := (i : Int) + 1) (by constructor <;> omega), wrapI (n := k + (i : Nat) + 1) (by constructor <;> omega)]
    have h2 : mkE (.str xs[i]) (overD (cellsD (.str xs[i])) 0 [.str (mark (k + (i : Nat)))]) = .str (mark (k + (i : Nat))) := rfl
    have h3 : ((mix (marks k xs.length) xs i).map DV.str).set i (.str (mark (k + (i : Nat)))) = (mix (marks k xs.length) xs (i + 1)).map DV.str := by
      rw [← mix_set hml hi', marks_get, List.map_set]
    simp only [h2, h3, List.set_set]
    rw [show k + (i : Nat) + 1 = k + ((i + 1 : Nat) : Int) by omega]
    rfl
  · intro _ rec _
    have hbk : bk (μ.set id { b with el := (mix (marks k xs.length) xs xs.length).map DV.str }) id ver = some { b with el := (mix (marks k xs.length) xs xs.length).map DV.str } := by
      have := bk_set (μ := μ) (b := { b with el := (mix (marks k xs.length) xs xs.length).map DV.str }) hid hlv.1
      rw [← hlv.2]; exact this
    unfold P_laws_markStringS.l0
    have hlast : mix (marks k xs.length) xs xs.length = marks k xs.length := by
      conv => lhs; rw [← hml]
      rw [hml]; conv => lhs; arg 3; rw [← hml]
      exact mix_last hml
    simp [qLen_own hbk]
    rw [hlast]
theorem heldStringS_ok {N n : Nat} (hN : 4294967296 ≤ N) (m : Nat) (k : Int) (hn : m ≤ 1048576) (h0 : 0 < k) (h1 : k ≤ 100000000) :
    run1 S_laws_heldStringS (qfn P N (n + 2) n_laws_heldStringS) [.sl [.sc] ((marks k m).map DV.str), .int .i64 k] = some ([.int .i64 (k + m)], []) := by
  refine run1_of (ν := []) rfl rfl rfl (r := [.int .i64 (k + m)]) ?_ (resO_sc rfl)
  rw [laws_heldStringS_eq]
  unfold P_laws_heldStringS
  have hml := marks_len k m
  refine Eq.trans (by simp) (loop_acc (F := P_laws_heldStringS.l0 N (qfn P N (n + 1)) 0) (N := N) (σ := Unit) (len := m) (fun i _ => ([.sl [.sc] ((marks k m).map DV.str), .int .i64 (k + (i : Nat)), .int .i64 (i : Nat)] : List DV)) (fun _ _ => [])
    (fun _ _ => True) (fun i _ => some ([DV.int .i64 (k + m)], [])) ?_ ?_ m (i := 0) (s := ()) trivial (by omega) (by omega))
  · intro i _ rec hi _
    refine .inl ⟨(), trivial, ?_, rfl⟩
    have hi' : i < (marks k m).length := by omega
    unfold P_laws_heldStringS.l0
    simp only [u3_list, qLen_sl, List.length_map, hml, bd_some, qBin_lss, qB_bool, Int.ofNat_lt, hi, decide_true, cond_true, qIA_map _ (show [Sh.sc].length = 1 from rfl) hi', qLd_rp, cellsD_str, getC_one, List.getElem?_cons_zero, Option.map_some, b2_some,
      cq_mark hN _ (k + (i : Nat)) (by omega) (by omega), c1_some, u1_list, stand_rp, qBin_sneq, marks_get, ne_eq, not_true_eq_false, decide_false, cond_false, qBin_add]
    rw [wrapI (n := (i : Int) + 1) (by constructor <;> omega), wrapI (n := k + (i : Nat) + 1) (by constructor <;> omega)]
    rw [show k + (i : Nat) + 1 = k + ((i + 1 : Nat) : Int) by omega]
    rfl
  · intro _ rec _
    unfold P_laws_heldStringS.l0
    simp [hml]
end Go.Lg.Pv.Q
namespace Go.Lg.Pv.Q
open Go Go.Lg Go.Lg.Pv
set_option linter.unusedVariables false
set_option linter.unusedSimpArgs false

def markR (k : Int) : Rec := ⟨k, k + 1, k + 2, mark (k + 3)⟩
def marksR (k : Int) (n : Nat) : List Rec := (List.range n).map fun i => markR (k + 4 * (i : Nat))
theorem marksR_len (k : Int) (n : Nat) : (marksR k n).length = n := by simp [marksR]
theorem marksR_get (k : Int) (n i : Nat) (h : i < (marksR k n).length) : (marksR k n)[i] = markR (k + 4 * (i : Nat)) := by simp [marksR]
theorem markRecordS_ok {N n : Nat} (hN : 4294967296 ≤ N) {μ : PH} {id ver c : Nat} {x : Bool} {b : PB} {xs : List Rec} {k : Int} (hb : bk μ id ver = some b) (hel : b.el = xs.map Rec.enc) (hsh : b.sh = shRec) (hop : b.op = false)
    (hn : xs.length ≤ 1048576) (h0 : 0 < k) (h1 : k ≤ 100000000) :
    qfn P N (n + 2) n_laws_markRecordS [.own id ver 0 xs.length c x, .int .i64 k] μ = some ([.int .i64 (k + 4 * xs.length)], μ.set id { b with el := (marksR k xs.length).map Rec.enc }) := by
  rw [laws_markRecordS_eq]
  unfold P_laws_markRecordS
  have hm0 : μ = μ.set id { b with el := (mix (marksR k xs.length) xs 0).map Rec.enc } := by
    rw [mix_zero, ← hel]; exact (bk_self hb).symm
  have hml := marksR_len k xs.length
  conv => lhs; rw [hm0]
  refine Eq.trans (by simp) (loop_acc (F := P_laws_markRecordS.l0 N (qfn P N (n + 1)) μ.length) (N := N) (σ := Unit) (len := xs.length) (fun i _ => ([.own id ver 0 xs.length c x, .int .i64 (k + 4 * (i : Nat)), .int .i64 (i : Nat)] : List DV)) (fun i _ => μ.set id { b with el := (mix (marksR k xs.length) xs i).map Rec.enc })
    (fun _ _ => True) (fun i _ => some ([DV.int .i64 (k + 4 * xs.length)], μ.set id { b with el := (marksR k xs.length).map Rec.enc })) ?_ ?_ xs.length (i := 0) (s := ()) trivial (by omega) (by omega))
  · intro i _ rec hi _
    refine .inl ⟨(), trivial, ?_, rfl⟩
    have hi' : i < (marksR k xs.length).length := by omega
    have hLl : i < ((mix (marksR k xs.length) xs i).map Rec.enc).length := by rw [List.length_map, mix_len hml]; exact hi
    have hL : (mix (marksR k xs.length) xs i).map Rec.enc = ((mix (marksR k xs.length) xs i).map Rec.enc).set i (.agg [.int .i64 xs[i].kind, .int .i64 xs[i].loc, .int .i64 xs[i].long, .str xs[i].data]) := by
      apply List.ext_getElem?
      intro j
      rw [List.getElem?_set]
      split
      · subst_vars; rw [List.getElem?_map, mix_get hml hi']; rfl
      · rfl
    unfold P_laws_markRecordS.l0
    generalize hLg : (mix (marksR k xs.length) xs i).map Rec.enc = L at hL hLl ⊢
    have hbk := bk_el hb L
    have hq : ∀ E : List DV, qIA (μ.set id { b with el := E }) 4 (.own id ver 0 xs.length c x) (.int .i64 (i : Nat)) = some (.ptr id ver i 0) := fun E => by
      rw [qIA_own (size := 4) (bk_el hb E) rfl hi (by show b.sh.length = 4; rw [hsh]; rfl), Nat.zero_add]
    simp only [u3_list, qLen_own hbk, bd_some, qBin_lss, qB_bool, Int.ofNat_lt, hi, decide_true, cond_true]
    rw [hL]
    simp only [hq, bd_some, qFA_ptr _ (bk_el hb _), Nat.zero_add]
    rw [st_at hb hop hLl (by simp) rfl rfl]
    simp only [bd_some, qBin_add, hq, qFA_ptr _ (bk_el hb _), Nat.zero_add]
    rw [wrapI (n := k + 4 * (i : Nat) + 1) (by constructor <;> omega), st_at hb hop hLl (by simp) rfl rfl]
    simp only [bd_some, qBin_add, hq, qFA_ptr _ (bk_el hb _), Nat.zero_add]
    rw [wrapI (n := k + 4 * (i : Nat) + 1 + 1) (by constructor <;> omega), st_at hb hop hLl (by simp) rfl rfl]
    simp only [bd_some, qBin_add]
    rw [wrapI (n := k + 4 * (i : Nat) + 1 + 1 + 1) (by constructor <;> omega)]
    simp only [cq_mark hN _ (k + 4 * (i : Nat) + 1 + 1 + 1) (by omega) (by omega), c1_some, u1_list, hq, bd_some, qFA_ptr _ (bk_el hb _), Nat.zero_add]
    rw [st_at hb hop hLl (by simp) rfl rfl]
    simp only [bd_some, qBin_add]
    rw [wrapI (n := (i : Int) + 1) (by constructor <;> omega), wrapI (n := k + 4 * (i : Nat) + 1 + 1 + 1 + 1) (by constructor <;> omega)]
    rw [← mix_set hml hi', List.map_set, marksR_get, hLg]
    rw [show k + 4 * (i : Nat) + 1 + 1 + 1 + 1 = k + 4 * ((i + 1 : Nat) : Int) by omega, show k + 4 * (i : Nat) + 1 + 1 + 1 = k + 4 * (i : Nat) + 3 by omega, show k + 4 * (i : Nat) + 1 + 1 = k + 4 * (i : Nat) + 2 by omega]
    rfl
  · intro _ rec _
    have hbk := bk_el hb ((mix (marksR k xs.length) xs xs.length).map Rec.enc)
    have hlast : mix (marksR k xs.length) xs xs.length = marksR k xs.length := by
      conv => lhs; arg 3; rw [← hml]
      exact mix_last hml
    unfold P_laws_markRecordS.l0
    simp [qLen_own hbk]
    rw [hlast]

/-! what is good -/
theorem within_ok {N n : Nat} (μ : PH) (a l h : Int) : cq S_impl_within (qfn P N (n + 1) n_impl_within) [.int .i64 a, .int .i64 l, .int .i64 h] μ = some ([.bool (decide (l ≤ a) && decide (a ≤ h))], μ) := by
  rw [cq_sn (args' := [.int .i64 a, .int .i64 l, .int .i64 h]) (res := [.bool (decide (l ≤ a) && decide (a ≤ h))]) rfl rfl ?_ rfl, adL_sc rfl]
  refine run1_of (ν := []) rfl rfl rfl (r := [.bool (decide (l ≤ a) && decide (a ≤ h))]) ?_ (resO_sc rfl)
  rw [impl_within_eq]
  unfold P_impl_within
  by_cases h1 : l ≤ a <;> simp [h1]
theorem l1In_ok {N n : Nat} (μ : PH) (a l h : Int) : cq S_spec_l1In (qfn P N (n + 1) n_spec_l1In) [.int .i64 a, .int .i64 l, .int .i64 h] μ = some ([.bool (decide (l ≤ a) && decide (a ≤ h))], μ) := by
  rw [cq_sn (args' := [.int .i64 a, .int .i64 l, .int .i64 h]) (res := [.bool (decide (l ≤ a) && decide (a ≤ h))]) rfl rfl ?_ rfl, adL_sc rfl]
  refine run1_of (ν := []) rfl rfl rfl (r := [.bool (decide (l ≤ a) && decide (a ≤ h))]) ?_ (resO_sc rfl)
  rw [spec_l1In_eq]
  unfold P_spec_l1In
  by_cases h1 : l ≤ a <;> simp [h1]
def inRun (a l : Int) : Bool := decide (1 ≤ l) && decide (l ≤ 4) && decide (0 ≤ a) && decide (a ≤ 16 - l)
theorem isRun_ok {N n : Nat} (μ : PH) (a l : Int) (h1 : 1 ≤ l) (h2 : l ≤ 4) : cq S_impl_isRun (qfn P N (n + 1) n_impl_isRun) [.int .i64 a, .int .i64 l] μ = some ([.bool (inRun a l)], μ) := by
  rw [cq_sn (args' := [.int .i64 a, .int .i64 l]) (res := [.bool (inRun a l)]) rfl rfl ?_ rfl, adL_sc rfl]
  refine run1_of (ν := []) rfl rfl rfl (r := [.bool (inRun a l)]) ?_ (resO_sc rfl)
  rw [impl_isRun_eq]
  unfold P_impl_isRun inRun
  simp [h1, h2]
  rw [wrapI (n := 16 - l) (by constructor <;> omega)]
  by_cases h3 : 0 ≤ a <;> simp [h3]
theorem l3Where_ok {N n : Nat} (μ : PH) (r : Rec) : cq S_spec_l3Where (qfn P N (n + 2) n_spec_l3Where) [r.enc] μ = some ([.bool (inRun r.loc r.long)], μ) := by
  rw [cq_sn (args' := [r.enc]) (res := [.bool (inRun r.loc r.long)]) rfl (by simp [sns, S_spec_l3Where, sn_cl _ _ (Rec.cl _)]) ?_ rfl, adL_sc rfl]
  refine run1_of (ν := []) rfl rfl rfl (r := [.bool (inRun r.loc r.long)]) ?_ (resO_sc rfl)
  rw [spec_l3Where_eq]
  unfold P_spec_l3Where inRun Rec.enc
  simp only [a4_agg, l1In_ok, c1_some, u1_list, qB_bool]
  by_cases h1 : 1 ≤ r.long <;> by_cases h2 : r.long ≤ 4 <;> simp [h1, h2, l1In_ok]
  rw [wrapI (n := 16 - r.long) (by constructor <;> omega)]
def good (r : Rec) : Bool :=
  if r.kind = 1 then inRun r.loc r.long && decide ((r.data.size : Int) = 2 * r.long)
  else if r.kind = 2 then inRun r.loc r.long && decide (r.data = ⟨#[]⟩)
  else if r.kind = 3 then decide (0 ≤ r.loc) && decide (r.loc ≤ 200) && decide (r.long = 0) && decide (r.data = ⟨#[]⟩)
  else false
theorem goodI {N n : Nat} (μ : PH) (r : Rec) : qfn P N (n + 2) n_impl_GoodRecord [r.enc] μ = some ([.bool (good r)], μ) := by
  rw [impl_GoodRecord_eq]
  unfold P_impl_GoodRecord good Rec.enc
  simp only [a4_agg, qBin_eql, bd_some, qB_bool, cond_dec, within_ok, c1_some, u1_list, qLs_str, qBin_mul, qBin_seql]
  by_cases h1 : 1 ≤ r.long <;> by_cases h2 : r.long ≤ 4
  · simp only [h1, h2, decide_true, Bool.and_self, cond_true, isRun_ok _ _ _ h1 h2, c1_some, u1_list, bd_some, qB_bool]
    rw [wrapI (n := 2 * r.long) (by constructor <;> omega)]
    have h0 : ¬ r.long = 0 := by omega
    cases hq : inRun r.loc r.long <;> simp [h0] <;> (repeat' split) <;> simp_all
  all_goals (simp [h1, h2, inRun] <;> (repeat' split) <;> simp_all)
  all_goals (cases (decide (0 ≤ r.loc) && decide (r.loc ≤ 200)) <;> simp)
theorem goodS {N n : Nat} (μ : PH) (r : Rec) : cq S_spec_GoodRecord (qfn P N (n + 3) n_spec_GoodRecord) [r.enc] μ = some ([.bool (good r)], μ) := by
  rw [cq_sn (args' := [r.enc]) (res := [.bool (good r)]) rfl (by simp [sns, S_spec_GoodRecord, sn_cl _ _ (Rec.cl _)]) ?_ rfl, adL_sc rfl]
  refine run1_of (ν := []) rfl rfl rfl (r := [.bool (good r)]) ?_ (resO_sc rfl)
  rw [spec_GoodRecord_eq]
  have hw := l3Where_ok (N := N) (n := n) [] r
  unfold Rec.enc at hw
  unfold P_spec_GoodRecord good Rec.enc
  simp only [a4_agg, qBin_eql, bd_some, qB_bool, cond_dec, l1In_ok, hw, c1_some, u1_list, qLs_str, qBin_mul, qBin_seql]
  cases hq : inRun r.loc r.long
  · simp
    (repeat' split) <;> simp_all
    all_goals (cases (decide (0 ≤ r.loc) && decide (r.loc ≤ 200)) <;> simp)
  · have : r.long ≤ 4 ∧ 1 ≤ r.long := by simp [inRun] at hq; omega
    simp
    rw [wrapI (n := 2 * r.long) (by constructor <;> omega)]
    have h0 : ¬ r.long = 0 := by omega
    (repeat' split) <;> simp_all
end Go.Lg.Pv.Q
namespace Go.Lg.Pv.Q
open Go Go.Lg Go.Lg.Pv
set_option linter.unusedVariables false
set_option linter.unusedSimpArgs false
set_option maxRecDepth 100000

abbrev fGood : DV := .fn n_impl_GoodRecord [] []
abbrev fNot : DV := .fn n_impl_areAll_impl_Record_1 [] [.rp fGood 0]
theorem notGood_ok {N n : Nat} (μ : PH) (r : Rec) : qfn P N (n + 3) n_impl_areAll_impl_Record_1 [r.enc, .rp fGood 0] μ = some ([.bool (!good r)], μ) := by
  rw [impl_areAll_impl_Record_1_eq]
  have h := goodI (N := N) (n := n) μ r
  unfold Rec.enc at h
  unfold P_impl_areAll_impl_Record_1 Rec.enc
  simp only [a4_agg, qLd_rp]
  have hg : getC (cellsD fGood) 0 1 false = some fGood := rfl
  simp only [hg, Option.map_some, b2_some, qF_fn, List.nil_append, List.append_nil, List.singleton_append, h, c1_some, u1_list, qUn_not, bd_some]
def ixf : List Rec → Nat → Int
  | [], _ => -1
  | r :: l, i => if good r then ixf l (i + 1) else i
theorem ixf_all : ∀ (l : List Rec) (i : Nat), decide (ixf l i ≥ 0) = !l.all good
  | [], i => rfl
  | r :: l, i => by
    simp only [ixf, List.all_cons]
    by_cases h : good r = true
    · simp only [h, if_true, Bool.true_and]; exact ixf_all l (i + 1)
    · simp [h]
theorem ixf_ok {N n : Nat} (hN : 4294967296 ≤ N) (l : List Rec) (hlen : l.length ≤ 1048576) :
    run1 S_slices_IndexFunc_impl_Record_impl_Record (qfn P N (n + 4) n_slices_IndexFunc_impl_Record_impl_Record) [.sl shRec (l.map Rec.enc), fNot] = some ([.int .i64 (ixf l 0)], []) := by
  refine run1_of (ν := []) rfl rfl rfl (r := [.int .i64 (ixf l 0)]) ?_ (resO_sc rfl)
  rw [slices_IndexFunc_impl_Record_impl_Record_eq]
  unfold P_slices_IndexFunc_impl_Record_impl_Record
  refine Eq.trans (by simp) (loop_acc (F := P_slices_IndexFunc_impl_Record_impl_Record.l0 N (qfn P N (n + 3)) 0) (N := N) (σ := Unit) (len := l.length) (fun i _ => ([.sl shRec (l.map Rec.enc), fNot, .int .i64 (l.length : Nat), .int .i64 (i : Nat)] : List DV)) (fun _ _ => []) (fun _ _ => True) (fun i _ => some ([DV.int .i64 (ixf (l.drop i) i)], []))
    ?_ ?_ l.length (i := 0) (s := ()) trivial (by omega) (by omega))
  · intro i _ rec hi _
    have hx : l.drop i = l[i] :: l.drop (i + 1) := List.drop_eq_getElem_cons hi
    rw [hx]
    unfold P_slices_IndexFunc_impl_Record_impl_Record.l0
    simp only [u4_list, bd_some, qBin_lss, qB_bool, Int.ofNat_lt, hi, decide_true, cond_true, qIA_map _ (show shRec.length = 4 from rfl) hi, qLd_rp, Rec.get, Option.map_some, b2_some, qF_fn, List.nil_append, List.singleton_append, notGood_ok, c1_some, u1_list, ixf]
    cases hg : good l[i]
    · refine .inr ?_; rfl
    · refine .inl ⟨(), trivial, ?_, rfl⟩
      simp only [Bool.not_true, cond_false, qBin_add, bd_some]
      rw [wrapI (n := (i : Int) + 1) (by constructor <;> omega)]
      rfl
  · intro _ rec _
    unfold P_slices_IndexFunc_impl_Record_impl_Record.l0
    simp [ixf]
theorem contains_ok {N n : Nat} (hN : 4294967296 ≤ N) (l : List Rec) (hlen : l.length ≤ 1048576) :
    run1 S_slices_ContainsFunc_impl_Record_impl_Record (qfn P N (n + 5) n_slices_ContainsFunc_impl_Record_impl_Record) [.sl shRec (l.map Rec.enc), fNot] = some ([.bool (!l.all good)], []) := by
  refine run1_of (ν := []) rfl rfl rfl (r := [.bool (!l.all good)]) ?_ (resO_sc rfl)
  rw [slices_ContainsFunc_impl_Record_impl_Record_eq]
  unfold P_slices_ContainsFunc_impl_Record_impl_Record
  rw [cq_sn (args' := [.sl shRec (l.map Rec.enc), fNot]) rfl (by simp only [sns, S_slices_IndexFunc_impl_Record_impl_Record, sn_cl _ _ (recs_cl l), sn_cl _ _ (show cl fNot = true from rfl), Option.bind_some]) (ixf_ok (n := n) hN l hlen) rfl, adL_sc rfl]
  simp only [c1_some, u1_list, qBin_geq, bd_some, ixf_all]
theorem areAll_ok {N n : Nat} (hN : 4294967296 ≤ N) (l : List Rec) (hlen : l.length ≤ 1048576) :
    run1 S_impl_areAll_impl_Record (qfn P N (n + 6) n_impl_areAll_impl_Record) [.sl shRec (l.map Rec.enc), fGood] = some ([.bool (l.all good)], []) := by
  refine run1_of (ν := [⟨0, [.sc], [fGood], true, true, true⟩]) rfl rfl rfl (r := [.bool (l.all good)]) ?_ (resO_sc rfl)
  rw [impl_areAll_impl_Record_eq]
  unfold P_impl_areAll_impl_Record
  have ha : qAl [] true [.sc] false [fGood] = some (.ptr 0 0 0 0, [⟨0, [.sc], [fGood], true, true, true⟩]) := rfl
  simp only [s1_fn, ha, b2_some]
  have hs : sns [⟨0, [.sc], [fGood], true, true, true⟩] S_slices_ContainsFunc_impl_Record_impl_Record.ps [.sl shRec (l.map Rec.enc), .fn n_impl_areAll_impl_Record_1 [] [.ptr 0 0 0 0]] = some [.sl shRec (l.map Rec.enc), fNot] := by
    simp only [sns, S_slices_ContainsFunc_impl_Record_impl_Record, sn_cl _ _ (recs_cl l), Option.bind_some]
    rfl
  rw [cq_sn rfl hs (contains_ok (n := n) hN l hlen) rfl, adL_sc rfl]
  simp only [c1_some, u1_list, qUn_not, bd_some, Bool.not_not]
theorem l3Good_ok {N n : Nat} (hN : 4294967296 ≤ N) (l : List Rec) (hlen : l.length ≤ 1048576) :
    run1 S_spec_l3Good (qfn P N (n + 4) n_spec_l3Good) [.sl shRec (l.map Rec.enc)] = some ([.bool (l.all good)], []) := by
  refine run1_of (ν := []) rfl rfl rfl (r := [.bool (l.all good)]) ?_ (resO_sc rfl)
  rw [spec_l3Good_eq]
  unfold P_spec_l3Good
  refine Eq.trans (by simp) (loop_acc (F := P_spec_l3Good.l0 N (qfn P N (n + 3)) 0) (N := N) (σ := Unit) (len := l.length) (fun i _ => ([.sl shRec (l.map Rec.enc), .int .i64 (l.length : Nat), .int .i64 (i : Nat)] : List DV)) (fun _ _ => []) (fun _ _ => True) (fun i _ => some ([DV.bool ((l.drop i).all good)], []))
    ?_ ?_ l.length (i := 0) (s := ()) trivial (by omega) (by omega))
  · intro i _ rec hi _
    have hx : l.drop i = l[i] :: l.drop (i + 1) := List.drop_eq_getElem_cons hi
    rw [hx]
    have hgs := goodS (N := N) (n := n) [] l[i]
    unfold P_spec_l3Good.l0
    simp only [u3_list, bd_some, qBin_lss, qB_bool, Int.ofNat_lt, hi, decide_true, cond_true, qIA_map _ (show shRec.length = 4 from rfl) hi, qLd_rp, Rec.get, Option.map_some, b2_some]
    unfold Rec.enc at hgs ⊢
    simp only [a4_agg, hgs, c1_some, u1_list, qUn_not, bd_some, qB_bool, List.all_cons]
    cases hg : good l[i]
    · refine .inr ?_; rfl
    · refine .inl ⟨(), trivial, ?_, by simp⟩
      simp only [Bool.not_true, cond_false, qBin_add, bd_some]
      rw [wrapI (n := (i : Int) + 1) (by constructor <;> omega)]
      rfl
  · intro _ rec _
    unfold P_spec_l3Good.l0
    simp

/-! what is done -/
def Z2 : ByteArray := ⟨#[0, 0]⟩
def piece (r : Rec) (i : Nat) : ByteArray := if r.kind = 1 then r.data.extract (2 * i) (2 * i + 2) else Z2
def doN (r : Rec) (bl : List ByteArray) : Nat → List ByteArray
  | 0 => bl
  | i + 1 => (doN r bl i).set (r.loc.toNat + i) (piece r i)
theorem doN_len (r : Rec) (bl : List ByteArray) : ∀ i, (doN r bl i).length = bl.length
  | 0 => rfl
  | i + 1 => by simp [doN, doN_len r bl i]
theorem good_long {r : Rec} (h : good r = true) : 0 ≤ r.long ∧ r.long ≤ 4 ∧ (0 < r.long → 0 ≤ r.loc ∧ r.loc + r.long ≤ 16) ∧ (r.kind = 1 → (r.data.size : Int) = 2 * r.long) := by
  unfold good inRun at h
  split at h
  · simp at h; omega
  · split at h
    · simp at h; omega
    · split at h
      · simp at h; omega
      · cases h
/-- a block of texts -/
def tB (v : Nat) (bl : List ByteArray) : PB := ⟨v, [.sc], bl.map DV.str, true, false, true⟩
theorem qSs_ok (s : ByteArray) (i : Nat) (a b : Int) (ha : a = 2 * (i : Nat)) (hb : b = 2 * (i : Nat) + 2) (h : 2 * i + 2 ≤ s.size) (k k' : IntKind) : qSs (.str s) (some (.int k a)) (some (.int k' b)) = some (.str (s.extract (2 * i) (2 * i + 2))) := by
  subst ha hb
  have h1 : (2 * (i : Int) + 2) ≤ (s.size : Int) := by omega
  have h3 : (2 * (i : Int) + 2).toNat = 2 * i + 2 := by omega
  have h4 : (2 * (i : Int)).toNat = 2 * i := by omega
  have h5 : (0 : Int) ≤ 2 * (i : Int) + 2 := by omega
  have h6 : (0 : Int) ≤ 2 * (i : Int) := by omega
  simp [qSs, qBd, asID, h1, h3, h4, h5, h6]
  rw [if_pos (by omega)]; rfl
theorem st_tB {v : Nat} {bl : List ByteArray} {j : Nat} {s : ByteArray} (h : j < bl.length) : qSt [tB v bl] 1 (.ptr 0 v j 0) (.str s) = some [tB v (bl.set j s)] := by
  have hb : bk [tB v bl] 0 v = some (tB v bl) := by simp [bk, tB]
  rw [qSt_ptr (size := 1) (cs := [.str s]) hb (e := .str bl[j]) (by simp [tB, h]) rfl (Nat.le_refl 1) rfl]
  simp only [tB, List.map_set]
  rfl
theorem ia_tB {v : Nat} {bl : List ByteArray} {j : Nat} {a : Int} {k : IntKind} (ha : a = (j : Nat)) (h : j < bl.length) : qIA [tB v bl] 1 (.own 0 v 0 bl.length bl.length false) (.int k a) = some (.ptr 0 v j 0) := by
  have hb : bk [tB v bl] 0 v = some (tB v bl) := by simp [bk, tB]
  rw [qIA_own (size := 1) hb ha h rfl, Nat.zero_add]
abbrev oB (v : Nat) : DV := .own 0 v 0 16 16 false
theorem do_ok {N n v : Nat} (hN : 4294967296 ≤ N) {bl : List ByteArray} {r : Rec} (h16 : bl.length = 16) (hg : good r = true) :
    qfn P N (n + 1) n_impl_Record_do [r.enc, oB v] [tB v bl] = some ([], [tB v (doN r bl r.long.toNat)]) := by
  rw [impl_Record_do_eq]
  obtain ⟨g0, g1, g2, g3⟩ := good_long hg
  unfold P_impl_Record_do Rec.enc
  obtain ⟨m, hm⟩ : ∃ m : Nat, r.long = (m : Int) := ⟨r.long.toNat, by omega⟩
  simp only [a4_agg, hm, Int.toNat_natCast]
  refine Eq.trans (by simp [doN]) (loop_acc (F := P_impl_Record_do.l0 N (qfn P N n) 1) (N := N) (σ := Unit) (len := m) (fun i _ => ([oB v, .int .i64 (m : Nat), .int .i64 (i : Nat), .int .i64 r.kind, .int .i64 r.loc, .int .i64 (m : Nat), .str r.data] : List DV)) (fun i _ => [tB v (doN r bl i)]) (fun _ _ => True) (fun _ _ => some ([], [tB v (doN r bl m)]))
    ?_ ?_ m (i := 0) (s := ()) trivial (by omega) (by omega))
  · intro i _ rec hi _
    refine .inl ⟨(), trivial, ?_, rfl⟩
    obtain ⟨g4, g5⟩ := g2 (by omega)
    have hj : r.loc.toNat + i < (doN r bl i).length := by rw [doN_len, h16]; omega
    have hw : IntKind.i64.wrap (r.loc + (i : Nat)) = r.loc + (i : Nat) := wrapI (by constructor <;> omega)
    have hia := ia_tB (v := v) (bl := doN r bl i) (k := .i64) (a := r.loc + (i : Nat)) (j := r.loc.toNat + i) (by omega) hj
    rw [doN_len, h16] at hia
    unfold P_impl_Record_do.l0
    simp only [u7_list, qBin_lss, bd_some, qB_bool, Int.ofNat_lt, hi, decide_true, cond_true, qBin_eql, qBin_add, qBin_mul, hw, hia]
    rw [wrapI (n := (i : Int) + 1) (by constructor <;> omega), wrapI (n := 2 * (i : Int)) (by constructor <;> omega), wrapI (n := 2 * ((i : Int) + 1)) (by constructor <;> omega)]
    by_cases hk : r.kind = 1
    · have := g3 hk
      simp only [hk, decide_true, cond_true]
      rw [qSs_ok r.data i _ _ rfl (by omega) (by omega)]
      simp only [bd_some, st_tB hj, doN, piece, hk, if_true]
      rfl
    · simp only [hk, decide_false, cond_false]
      simp only [bd_some, st_tB hj, doN, piece, hk, if_false]
      rfl
  · intro _ rec _
    unfold P_impl_Record_do.l0
    simp
theorem l3Do_ok {N n v : Nat} (hN : 4294967296 ≤ N) {bl : List ByteArray} {r : Rec} (h16 : bl.length = 16) (hg : good r = true) :
    qfn P N (n + 1) n_spec_l3Do [oB v, r.enc] [tB v bl] = some ([], [tB v (doN r bl r.long.toNat)]) := by
  rw [spec_l3Do_eq]
  obtain ⟨g0, g1, g2, g3⟩ := good_long hg
  unfold P_spec_l3Do Rec.enc
  obtain ⟨m, hm⟩ : ∃ m : Nat, r.long = (m : Int) := ⟨r.long.toNat, by omega⟩
  simp only [a4_agg, hm, Int.toNat_natCast]
  refine Eq.trans (by simp [doN]) (loop_acc (F := P_spec_l3Do.l0 N (qfn P N n) 1) (N := N) (σ := Unit) (len := m) (fun i _ => ([oB v, .int .i64 (i : Nat), .int .i64 r.kind, .int .i64 r.loc, .int .i64 (m : Nat), .str r.data] : List DV)) (fun i _ => [tB v (doN r bl i)]) (fun _ _ => True) (fun _ _ => some ([], [tB v (doN r bl m)]))
    ?_ ?_ m (i := 0) (s := ()) trivial (by omega) (by omega))
  · intro i _ rec hi _
    refine .inl ⟨(), trivial, ?_, rfl⟩
    obtain ⟨g4, g5⟩ := g2 (by omega)
    have hj : r.loc.toNat + i < (doN r bl i).length := by rw [doN_len, h16]; omega
    have hj' : r.loc.toNat + i < ((doN r bl i).set (r.loc.toNat + i) Z2).length := by rw [List.length_set]; exact hj
    have hw : IntKind.i64.wrap (r.loc + (i : Nat)) = r.loc + (i : Nat) := wrapI (by constructor <;> omega)
    have hia := ia_tB (v := v) (bl := doN r bl i) (k := .i64) (a := r.loc + (i : Nat)) (j := r.loc.toNat + i) (by omega) hj
    have hia' := ia_tB (v := v) (bl := (doN r bl i).set (r.loc.toNat + i) Z2) (k := .i64) (a := r.loc + (i : Nat)) (j := r.loc.toNat + i) (by omega) hj'
    rw [doN_len, h16] at hia
    rw [List.length_set, doN_len, h16] at hia'
    unfold P_spec_l3Do.l0
    have hz : (DV.str ⟨#[0, 0]⟩) = .str Z2 := rfl
    simp only [u6_list, qBin_lss, bd_some, qB_bool, Int.ofNat_lt, hi, decide_true, cond_true, qBin_eql, qBin_add, qBin_mul, hw, hia, hz, st_tB hj]
    rw [wrapI (n := (i : Int) + 1) (by constructor <;> omega), wrapI (n := 2 * (i : Int)) (by constructor <;> omega), wrapI (n := 2 * (i : Int) + 2) (by constructor <;> omega)]
    by_cases hk : r.kind = 1
    · have := g3 hk
      simp only [hk, decide_true, cond_true]
      rw [qSs_ok r.data i _ _ rfl rfl (by omega)]
      simp only [bd_some, hia', st_tB hj', doN, piece, hk, if_true, List.set_set]
      rfl
    · simp only [hk, decide_false, cond_false]
      simp only [bd_some, doN, piece, hk, if_false]
      rfl
  · intro _ rec _
    unfold P_spec_l3Do.l0
    simp

def foldR (l : List Rec) (bl : List ByteArray) : List ByteArray := l.foldl (fun bl r => doN r bl r.long.toNat) bl
theorem foldR_len : ∀ (l : List Rec) (bl : List ByteArray), (foldR l bl).length = bl.length
  | [], bl => rfl
  | r :: l, bl => by
    have := foldR_len l (doN r bl r.long.toNat)
    rw [doN_len] at this
    exact this
theorem all_get {l : List Rec} (h : l.all good = true) {i : Nat} (hi : i < l.length) : good l[i] = true := List.all_eq_true.1 h _ (List.getElem_mem hi)

/-! shown to a call -/
theorem own_all {b : PB} {l : List DV} {n : Nat} (h : b.el = l) (hn : n = l.length) : (b.el.drop 0).take n = l := by subst hn; rw [h]; simp
theorem txt_cl (l : List ByteArray) : clL (l.map DV.str) = true := clL_map (fun _ => rfl) l
theorem snT {μ : PH} {i m : Nat} {b : PB} {s : List Sh} {O : List ByteArray} (hi : bk μ i 0 = some b) (hs : b.sh = [.sc]) (he : b.el = O.map DV.str) (hm : m = O.length) : sn μ s (.own i 0 0 m m false) = some (.sl [.sc] (O.map DV.str)) := by
  rw [← hs]; exact sn_own hi (own_all he (by simp [hm])) (txt_cl O)
theorem snR {μ : PH} {i m : Nat} {b : PB} {s : List Sh} {l : List Rec} (hi : bk μ i 0 = some b) (hs : b.sh = shRec) (he : b.el = l.map Rec.enc) (hm : m = l.length) : sn μ s (.own i 0 0 m m false) = some (.sl shRec (l.map Rec.enc)) := by
  rw [← hs]; exact sn_own hi (own_all he (by simp [hm])) (clL_map Rec.cl l)
theorem snI (μ : PH) (s : List Sh) (k : IntKind) (a : Int) : sn μ s (.int k a) = some (.int k a) := sn_cl _ _ rfl
end Go.Lg.Pv.Q
namespace Go.Lg.Pv.Q
open Go Go.Lg Go.Lg.Pv
set_option linter.unusedVariables false
set_option linter.unusedSimpArgs false
set_option maxRecDepth 100000

def szTs : List ByteArray → Int → Int
  | [], left => left
  | s :: l, left => if left - s.size < 0 then -1 else szTs l (left - s.size)
theorem szTs_le : ∀ {l : List ByteArray} {left : Int}, szTs l left ≤ left ∨ szTs l left < 0
  | [], left => .inl (by simp [szTs])
  | s :: l, left => by
    simp only [szTs]; split
    · exact .inr (by decide)
    · rcases szTs_le (l := l) (left := left - s.size) with h | h
      · left; omega
      · exact .inr h
def szTexts (l : List ByteArray) (left : Int) : Int := if left - l.length < 0 then -1 else szTs l (left - l.length)
theorem szStringS_ok {N n : Nat} (hN : 4294967296 ≤ N) (l : List ByteArray) (left : Int) (h0 : 0 ≤ left) (h1 : left ≤ 1048576) (hl : ∀ s ∈ l, (s.size : Int) ≤ 9223372036854775807) (hlen : (l.length : Int) ≤ 9223372036854775807) :
    run1 S_laws_szStringS (qfn P N (n + 1) n_laws_szStringS) [.sl [.sc] (l.map DV.str), .int .i64 left] = some ([.int .i64 (szTexts l left)], []) := by
  refine run1_of (ν := []) rfl rfl rfl (r := [.int .i64 (szTexts l left)]) ?_ (resO_sc rfl)
  rw [laws_szStringS_eq]
  unfold P_laws_szStringS szTexts
  simp
  rw [wrapI (n := left - (l.length : Nat)) (by constructor <;> omega)]
  split <;> rename_i hlt
  · rfl
  refine (loop_acc (σ := Int) (len := l.length) (fun i left => ([.sl [.sc] (l.map DV.str), .int .i64 left, .int .i64 (i : Nat)] : List DV)) (fun _ _ => []) (fun _ left => 0 ≤ left ∧ left ≤ 1048576) (fun i left => some ([DV.int .i64 (szTs (l.drop i) left)], []))
    ?_ ?_ l.length (i := 0) (s := left - l.length) ⟨by omega, by omega⟩ (by omega) (by omega)).trans (by simp)
  · intro i left rec hi ⟨g0, g1⟩
    have hx : l.drop i = l[i] :: l.drop (i + 1) := List.drop_eq_getElem_cons hi
    have hsz := hl _ (List.getElem_mem hi)
    unfold P_laws_szStringS.l0
    rw [hx]
    simp only [u3_list, qLen_sl, List.length_map, bd_some, qBin_lss, qB_bool, Int.ofNat_lt, hi, decide_true, cond_true, qIA_map _ (show [Sh.sc].length = 1 from rfl) hi, qLd_rp, cellsD_str, getC_one, List.getElem?_cons_zero, Option.map_some, b2_some, qLs_str, qBin_sub]
    rw [wrapI (n := left - (l[i].size : Nat)) (by constructor <;> omega)]
    by_cases hs : left - (l[i].size : Nat) < 0
    · refine .inr ?_
      simp [szTs, hs]
    · refine .inl ⟨left - (l[i].size : Nat), by omega, ?_, ?_⟩
      · simp only [hs, decide_false, cond_false, qBin_add, bd_some]
        rw [wrapI (n := (i : Int) + 1) (by constructor <;> omega)]
        rfl
      · simp [szTs, hs]
  · intro left rec _
    unfold P_laws_szStringS.l0
    simp [szTs]
/-- the block of a copy -/
def cpT (l : List ByteArray) (i : Nat) : PB := ⟨0, [.sc], (pre l ⟨#[]⟩ i).map DV.str, true, false, true⟩
theorem toStringS_ok {N n : Nat} (hN : 4294967296 ≤ N) (l : List ByteArray) (hlen : l.length ≤ 1048576) :
    run1 S_laws_toStringS (qfn P N (n + 1) n_laws_toStringS) [.sl [.sc] (l.map DV.str)] = some ([.sl [.sc] (l.map DV.str)], []) := by
  refine run1_of (ν := [cpT l l.length]) (ν' := kl [cpT l l.length] 0) rfl rfl rfl (r := [.own 0 0 0 l.length l.length true]) ?_ ?_
  · rw [laws_toStringS_eq]
    unfold P_laws_toStringS
    have h1 : (l.length : Int) * 16 ≤ 140737488355328 := by omega
    have h2 : (l.length : Int) ≤ 9223372036854775807 := by omega
    have hms : qMS [] [.sc] false [.str ⟨#[]⟩] 1 16 (.int .i64 l.length) (.int .i64 l.length) = some (.own 0 0 0 l.length l.length true, [cpT l 0]) := by
      simp [qMS, h1, h2, cpT, pre_zero, okC, isSc]
      exact .inr rfl
    simp only [qLen_sl, bd_some, List.length_map, hms, b2_some]
    refine (loop_acc (σ := Unit) (len := l.length) (fun i _ => ([.sl [.sc] (l.map DV.str), .own 0 0 0 l.length l.length true, .int .i64 (i : Nat)] : List DV)) (fun i _ => [cpT l i]) (fun _ _ => True) (fun i _ => some ([DV.own 0 0 0 l.length l.length true], [cpT l l.length]))
      ?_ ?_ l.length (i := 0) (s := ()) trivial (by omega) (by omega))
    · intro i _ rec hi _
      refine .inl ⟨(), trivial, ?_, rfl⟩
      unfold P_laws_toStringS.l0
      simp only [u3_list, qLen_sl, List.length_map, bd_some, qBin_lss, qB_bool, Int.ofNat_lt, hi, decide_true, cond_true, qIA_map _ (show [Sh.sc].length = 1 from rfl) hi, qLd_rp, cellsD_str, getC_one, List.getElem?_cons_zero, Option.map_some, b2_some]
      have hb : bk [cpT l i] 0 0 = some (cpT l i) := rfl
      have hg : (cpT l i).el[i]? = some (.str ((pre l ⟨#[]⟩ i)[i]'(by rw [pre_len _ _ _ (by omega)]; exact hi))) := by simp [cpT, pre_len _ _ _ (Nat.le_of_lt hi), hi]
      simp only [qIA_own (size := 1) hb rfl hi (show (cpT l i).sh.length = 1 from rfl), bd_some, Nat.zero_add]
      rw [qSt_ptr (size := 1) (cs := [.str l[i]]) hb hg rfl (Nat.le_refl 1) rfl]
      simp only [bd_some, qBin_add]
      rw [wrapI (n := (i : Int) + 1) (by constructor <;> omega)]
      have : ([cpT l i].set 0 { cpT l i with el := (cpT l i).el.set i (.str l[i]) }) = [cpT l (i + 1)] := by
        simp [cpT, ← pre_set l ⟨#[]⟩ i hi, List.map_set]
      exact congrArg (rec _) this
    · intro _ rec _
      unfold P_laws_toStringS.l0
      simp
  · have hb : bk [cpT l l.length] 0 0 = some (cpT l l.length) := rfl
    have he : ((cpT l l.length).el.drop 0).take l.length = l.map DV.str := by simp only [cpT, pre_last, List.drop_zero]; exact List.take_of_length_le (by simp)
    have hc : clL (l.map DV.str) = true := txt_cl l
    simp only [resO, S_laws_toStringS, onS, tk_own hb rfl rfl he hc, Option.bind_some]
    rfl
end Go.Lg.Pv.Q
namespace Go.Lg.Pv.Q
open Go Go.Lg Go.Lg.Pv
set_option linter.unusedVariables false
set_option linter.unusedSimpArgs false
set_option maxRecDepth 100000

structure Vol where
  base : List ByteArray
  folded : Int
  log : List Rec
  sure : Int
  deriving DecidableEq
abbrev shVol : List Sh := [.sl [.sc], .sc, .sl shRec, .sc]
def Vol.enc (v : Vol) : DV := .agg [.sl [.sc] (v.base.map DV.str), .int .i64 v.folded, .sl shRec (v.log.map Rec.enc), .int .i64 v.sure]
theorem txts_cl (l : List ByteArray) : cl (.sl [.sc] (l.map DV.str)) = true := by simp only [Pv.cl]; exact txt_cl l
theorem Vol.cl (v : Vol) : Pv.cl v.enc = true := by
  have h1 := txt_cl v.base
  have h2 := clL_map Rec.cl v.log
  simp [Vol.enc, Pv.cl, clL, h1, h2]
structure Vol.ok (v : Vol) : Prop where
  b1 : ∀ s ∈ v.base, (s.size : Int) ≤ 9223372036854775807
  b2 : (v.base.length : Int) ≤ 9223372036854775807
  l1 : ∀ r ∈ v.log, r.ok
  l2 : (v.log.length : Int) ≤ 9223372036854775807
  f : inI v.folded
  s : inI v.sure
def szRs (l : List Rec) (left : Int) : Int := if left - l.length < 0 then -1 else szRecs l (left - l.length)
def szVol (v : Vol) (left : Int) : Int := if szTexts v.base left < 0 then -1 else if szRs v.log (szTexts v.base left) < 0 then -1 else szRs v.log (szTexts v.base left)
theorem szTexts_le {l : List ByteArray} {left : Int} (h : ¬ szTexts l left < 0) : szTexts l left + l.length ≤ left := by
  unfold szTexts at h ⊢
  split
  · rename_i h'; rw [if_pos h'] at h; exact absurd (by decide) h
  · rename_i h'; rw [if_neg h'] at h
    rcases szTs_le (l := l) (left := left - l.length) with h'' | h''
    · omega
    · exact absurd h'' h
theorem szVol_le {v : Vol} {left : Int} (h1 : left ≤ 1048576) (h : ¬ szVol v left < 0) : v.base.length ≤ 1048576 ∧ v.log.length ≤ 1048576 := by
  unfold szVol at h
  split at h
  · exact absurd (by decide) h
  · rename_i h2
    have := szTexts_le h2
    split at h
    · exact absurd (by decide) h
    · rename_i h3
      unfold szRs at h3
      split at h3
      · exact absurd (by decide) h3
      · omega
theorem szVolume_ok {N n : Nat} (hN : 4294967296 ≤ N) (v : Vol) (hv : v.ok) (left : Int) (h0 : 0 ≤ left) (h1 : left ≤ 1048576) :
    run1 S_laws_szVolume (qfn P N (n + 3) n_laws_szVolume) [v.enc, .int .i64 left] = some ([.int .i64 (szVol v left)], []) := by
  refine run1_of (ν := []) rfl rfl rfl (r := [.int .i64 (szVol v left)]) ?_ (resO_sc rfl)
  rw [laws_szVolume_eq]
  unfold P_laws_szVolume Vol.enc szVol
  simp only [a4_agg]
  rw [cq_sn (args' := [.sl [.sc] (v.base.map DV.str), .int .i64 left]) rfl (by simp only [sns, S_laws_szStringS, sn_cl _ _ (txts_cl v.base), snI, Option.bind_some]) (szStringS_ok (n := n + 1) hN v.base left h0 h1 hv.b1 hv.b2) rfl, adL_sc rfl]
  simp only [c1_some, u1_list, qBin_lss, bd_some, qB_bool]
  by_cases hs : szTexts v.base left < 0
  · simp [hs]
  · have := szTexts_le hs
    simp only [hs, decide_false, cond_false, if_false]
    rw [cq_sn (args' := [.sl shRec (v.log.map Rec.enc), .int .i64 (szTexts v.base left)]) rfl (by simp only [sns, S_laws_szRecordS, sn_cl _ _ (recs_cl v.log), snI, Option.bind_some]) (szRecordS_ok (n := n) hN v.log (szTexts v.base left) (by omega) (by omega) hv.l1 hv.l2) rfl, adL_sc rfl]
    simp only [c1_some, u1_list, qBin_lss, bd_some, qB_bool]
    by_cases h2 : szRs v.log (szTexts v.base left) < 0
    · have h3 := h2
      unfold szRs at h3
      simp [h2, h3]
    · have h3 := h2
      unfold szRs at h3
      simp [h2, h3]
      rfl
def rB (l : List Rec) : PB := ⟨0, shRec, l.map Rec.enc, true, false, true⟩
theorem cq_toS {N n : Nat} (hN : 4294967296 ≤ N) (l : List ByteArray) (hlen : l.length ≤ 1048576) (μ : PH) : cq S_laws_toStringS (qfn P N (n + 1) n_laws_toStringS) [.sl [.sc] (l.map DV.str)] μ = some ([.own μ.length 0 0 l.length l.length false], μ ++ [tB 0 l]) := by
  rw [cq_sn (args' := [.sl [.sc] (l.map DV.str)]) rfl (by simp only [sns, S_laws_toStringS, sn_cl _ _ (txts_cl l), Option.bind_some]) (toStringS_ok hN l hlen) rfl, adL_sl]
  simp only [List.length_map]; rfl
theorem cq_toR {N n : Nat} (hN : 4294967296 ≤ N) (l : List Rec) (hlen : l.length ≤ 1048576) (μ : PH) : cq S_laws_toRecordS (qfn P N (n + 2) n_laws_toRecordS) [.sl shRec (l.map Rec.enc)] μ = some ([.own μ.length 0 0 l.length l.length false], μ ++ [rB l]) := by
  rw [cq_sn (args' := [.sl shRec (l.map Rec.enc)]) rfl (by simp only [sns, S_laws_toRecordS, sn_cl _ _ (recs_cl l), Option.bind_some]) (toRecordS_ok hN l hlen) rfl, adL_sl]
  simp only [List.length_map]; rfl
theorem toVolume_ok {N n : Nat} (hN : 4294967296 ≤ N) (v : Vol) (h1 : v.base.length ≤ 1048576) (h2 : v.log.length ≤ 1048576) :
    run1 S_laws_toVolume (qfn P N (n + 3) n_laws_toVolume) [v.enc] = some ([v.enc], []) := by
  refine run1_of rfl rfl rfl (r := [.agg [.own 0 0 0 v.base.length v.base.length false, .int .i64 v.folded, .own 1 0 0 v.log.length v.log.length false, .int .i64 v.sure]]) (ν := [tB 0 v.base, rB v.log]) (ν' := kl (kl [tB 0 v.base, rB v.log] 0) 1) ?_ ?_
  · rw [laws_toVolume_eq]
    unfold P_laws_toVolume Vol.enc
    simp only [a4_agg]
    rw [cq_toS (n := n + 1) hN v.base h1]
    simp only [c1_some, u1_list, s1_own, s1_int, List.nil_append, List.length_nil]
    rw [cq_toR (n := n) hN v.log h2]
    simp only [c1_some, u1_list, s1_own, s1_int, a4_agg, List.length_cons, List.length_nil, List.cons_append, List.nil_append, Nat.zero_add]
  · have hb : bk [tB 0 v.base, rB v.log] 0 0 = some (tB 0 v.base) := rfl
    have hb2 : bk (kl [tB 0 v.base, rB v.log] 0) 1 0 = some (rB v.log) := rfl
    have t1 := tk_own (s := .sl [.sc]) (x := false) (c := v.base.length) hb rfl rfl (own_all (b := tB 0 v.base) (l := v.base.map DV.str) (n := v.base.length) rfl (by simp)) (txt_cl v.base)
    have t2 := tk_own (s := .sl shRec) (x := false) (c := v.log.length) hb2 rfl rfl (own_all (b := rB v.log) (l := v.log.map Rec.enc) (n := v.log.length) rfl (by simp)) (clL_map Rec.cl v.log)
    have t3 : ∀ (μ : PH) (s : Sh) (k : IntKind) (a : Int), tkC μ s (.int k a) = some (.int k a, μ) := fun _ _ _ _ => rfl
    simp only [resO, S_laws_toVolume, onS, zipS, List.headD_cons, List.tail_cons, t1, t2, t3, Option.bind_some, Option.map_some]
    rfl
theorem eqVolume_ok {N n : Nat} (hN : 4294967296 ≤ N) (a b : Vol) (h1 : a.base.length ≤ 1048576) (h2 : a.log.length ≤ 1048576) (h3 : b.base.length ≤ 1048576) (h4 : b.log.length ≤ 1048576) :
    run1 S_laws_eqVolume (qfn P N (n + 3) n_laws_eqVolume) [a.enc, b.enc] = some ([.bool (decide (a = b))], []) := by
  refine run1_of (ν := []) rfl rfl rfl (r := [.bool (decide (a = b))]) ?_ (resO_sc rfl)
  rw [laws_eqVolume_eq]
  unfold P_laws_eqVolume Vol.enc
  simp only [a4_agg]
  rw [cq_sn (args' := [.sl [.sc] (a.base.map DV.str), .sl [.sc] (b.base.map DV.str)]) rfl (by simp only [sns, S_laws_eqStringS, sn_cl _ _ (txts_cl a.base), sn_cl _ _ (txts_cl b.base), Option.bind_some]) (eqStringS_ok (n := n + 1) hN a.base b.base h1 h3) rfl, adL_sc rfl]
  have hR := cq_sn (μ := []) (args := [.sl shRec (a.log.map Rec.enc), .sl shRec (b.log.map Rec.enc)]) (args' := [.sl shRec (a.log.map Rec.enc), .sl shRec (b.log.map Rec.enc)]) (s := S_laws_eqRecordS) rfl (by simp only [sns, S_laws_eqRecordS, sn_cl _ _ (recs_cl a.log), sn_cl _ _ (recs_cl b.log), Option.bind_some]) (eqRecordS_ok (n := n) hN a.log b.log h2 h4) rfl
  rw [adL_sc rfl] at hR
  have he : a = b ↔ a.base = b.base ∧ a.folded = b.folded ∧ a.log = b.log ∧ a.sure = b.sure := by cases a; cases b; simp
  simp only [c1_some, u1_list, qUn_not, bd_some, qB_bool, qBin_neq, hR]
  by_cases e1 : a.base = b.base <;> by_cases e2 : a.folded = b.folded <;> by_cases e3 : a.log = b.log <;> by_cases e4 : a.sure = b.sure <;> simp [he, e1, e2, e3, e4]
end Go.Lg.Pv.Q
namespace Go.Lg.Pv.Q
open Go Go.Lg Go.Lg.Pv
set_option linter.unusedVariables false
set_option linter.unusedSimpArgs false
set_option maxRecDepth 100000

abbrev two (s : ByteArray) : Bool := decide ((s.size : Int) = 2)
abbrev fData : DV := .fn n_impl_isData [] []
abbrev fNotD : DV := .fn n_impl_areAll_string_1 [] [.rp fData 0]
theorem notData_ok {N n : Nat} (μ : PH) (s : ByteArray) : qfn P N (n + 2) n_impl_areAll_string_1 [.str s, .rp fData 0] μ = some ([.bool (!two s)], μ) := by
  rw [impl_areAll_string_1_eq]
  unfold P_impl_areAll_string_1
  have hg : getC (cellsD fData) 0 1 false = some fData := rfl
  have hd : qfn P N (n + 1) n_impl_isData [.str s] μ = some ([.bool (two s)], μ) := by
    rw [impl_isData_eq]; unfold P_impl_isData; simp
  simp only [qLd_rp, hg, Option.map_some, b2_some, qF_fn, List.nil_append, List.append_nil, List.singleton_append, hd, c1_some, u1_list, qUn_not, bd_some]
def ixd : List ByteArray → Nat → Int
  | [], _ => -1
  | r :: l, i => if two r then ixd l (i + 1) else i
theorem ixd_all : ∀ (l : List ByteArray) (i : Nat), decide (ixd l i ≥ 0) = !l.all two
  | [], i => rfl
  | r :: l, i => by
    simp only [ixd, List.all_cons]
    by_cases h : two r = true
    · simp only [h, if_true, Bool.true_and]; exact ixd_all l (i + 1)
    · simp [h]
theorem ixd_ok {N n : Nat} (hN : 4294967296 ≤ N) (l : List ByteArray) (hlen : l.length ≤ 1048576) :
    run1 S_slices_IndexFunc_string_string (qfn P N (n + 3) n_slices_IndexFunc_string_string) [.sl [.sc] (l.map DV.str), fNotD] = some ([.int .i64 (ixd l 0)], []) := by
  refine run1_of (ν := []) rfl rfl rfl (r := [.int .i64 (ixd l 0)]) ?_ (resO_sc rfl)
  rw [slices_IndexFunc_string_string_eq]
  unfold P_slices_IndexFunc_string_string
  refine Eq.trans (by simp) (loop_acc (F := P_slices_IndexFunc_string_string.l0 N (qfn P N (n + 2)) 0) (N := N) (σ := Unit) (len := l.length) (fun i _ => ([.sl [.sc] (l.map DV.str), fNotD, .int .i64 (l.length : Nat), .int .i64 (i : Nat)] : List DV)) (fun _ _ => []) (fun _ _ => True) (fun i _ => some ([DV.int .i64 (ixd (l.drop i) i)], []))
    ?_ ?_ l.length (i := 0) (s := ()) trivial (by omega) (by omega))
  · intro i _ rec hi _
    have hx : l.drop i = l[i] :: l.drop (i + 1) := List.drop_eq_getElem_cons hi
    rw [hx]
    unfold P_slices_IndexFunc_string_string.l0
    simp only [u4_list, bd_some, qBin_lss, qB_bool, Int.ofNat_lt, hi, decide_true, cond_true, qIA_map _ (show [Sh.sc].length = 1 from rfl) hi, qLd_rp, cellsD_str, getC_one, List.getElem?_cons_zero, Option.map_some, b2_some, qF_fn, List.nil_append, List.singleton_append, notData_ok, c1_some, u1_list, ixd]
    cases hg : two l[i]
    · refine .inr ?_; rfl
    · refine .inl ⟨(), trivial, ?_, rfl⟩
      simp only [Bool.not_true, cond_false, qBin_add, bd_some]
      rw [wrapI (n := (i : Int) + 1) (by constructor <;> omega)]
      rfl
  · intro _ rec _
    unfold P_slices_IndexFunc_string_string.l0
    simp [ixd]
theorem containsD_ok {N n : Nat} (hN : 4294967296 ≤ N) (l : List ByteArray) (hlen : l.length ≤ 1048576) :
    run1 S_slices_ContainsFunc_string_string (qfn P N (n + 4) n_slices_ContainsFunc_string_string) [.sl [.sc] (l.map DV.str), fNotD] = some ([.bool (!l.all two)], []) := by
  refine run1_of (ν := []) rfl rfl rfl (r := [.bool (!l.all two)]) ?_ (resO_sc rfl)
  rw [slices_ContainsFunc_string_string_eq]
  unfold P_slices_ContainsFunc_string_string
  rw [cq_sn (args' := [.sl [.sc] (l.map DV.str), fNotD]) rfl (by simp only [sns, S_slices_IndexFunc_string_string, sn_cl _ _ (txts_cl l), sn_cl _ _ (show cl fNotD = true from rfl), Option.bind_some]) (ixd_ok (n := n) hN l hlen) rfl, adL_sc rfl]
  simp only [c1_some, u1_list, qBin_geq, bd_some, ixd_all]
theorem areAllD_ok {N n : Nat} (hN : 4294967296 ≤ N) (l : List ByteArray) (hlen : l.length ≤ 1048576) :
    run1 S_impl_areAll_string (qfn P N (n + 5) n_impl_areAll_string) [.sl [.sc] (l.map DV.str), fData] = some ([.bool (l.all two)], []) := by
  refine run1_of (ν := [⟨0, [.sc], [fData], true, true, true⟩]) rfl rfl rfl (r := [.bool (l.all two)]) ?_ (resO_sc rfl)
  rw [impl_areAll_string_eq]
  unfold P_impl_areAll_string
  have ha : qAl [] true [.sc] false [fData] = some (.ptr 0 0 0 0, [⟨0, [.sc], [fData], true, true, true⟩]) := rfl
  simp only [s1_fn, ha, b2_some]
  have hs : sns [⟨0, [.sc], [fData], true, true, true⟩] S_slices_ContainsFunc_string_string.ps [.sl [.sc] (l.map DV.str), .fn n_impl_areAll_string_1 [] [.ptr 0 0 0 0]] = some [.sl [.sc] (l.map DV.str), fNotD] := by
    simp only [sns, S_slices_ContainsFunc_string_string, sn_cl _ _ (txts_cl l), Option.bind_some]
    rfl
  rw [cq_sn rfl hs (containsD_ok (n := n) hN l hlen) rfl, adL_sc rfl]
  simp only [c1_some, u1_list, qUn_not, bd_some, Bool.not_not]
def isBl (b : List ByteArray) : Bool := decide ((b.length : Int) = 16) && b.all two
theorem areBlocks_ok {N n : Nat} (hN : 4294967296 ≤ N) (b : List ByteArray) (hlen : b.length ≤ 1048576) (μ : PH) :
    cq S_impl_areBlocks (qfn P N (n + 6) n_impl_areBlocks) [.sl [.sc] (b.map DV.str)] μ = some ([.bool (isBl b)], μ) := by
  rw [cq_sn (args' := [.sl [.sc] (b.map DV.str)]) (res := [.bool (isBl b)]) rfl (by simp only [sns, S_impl_areBlocks, sn_cl _ _ (txts_cl b), Option.bind_some]) ?_ rfl, adL_sc rfl]
  refine run1_of (ν := []) rfl rfl rfl (r := [.bool (isBl b)]) ?_ (resO_sc rfl)
  rw [impl_areBlocks_eq]
  unfold P_impl_areBlocks isBl
  simp only [qLen_sl, List.length_map, bd_some, qBin_eql, qB_bool]
  rw [cq_sn (args' := [.sl [.sc] (b.map DV.str), fData]) rfl (by simp only [sns, S_impl_areAll_string, sn_cl _ _ (txts_cl b), sn_cl _ _ (show cl fData = true from rfl), Option.bind_some]) (areAllD_ok (n := n) hN b hlen) rfl, adL_sc rfl]
  by_cases h : (b.length : Int) = 16 <;> simp [h]
theorem l6Blocks_ok {N n : Nat} (hN : 4294967296 ≤ N) (b : List ByteArray) (hlen : b.length ≤ 1048576) (μ : PH) :
    cq S_spec_l6Blocks (qfn P N (n + 1) n_spec_l6Blocks) [.sl [.sc] (b.map DV.str)] μ = some ([.bool (isBl b)], μ) := by
  rw [cq_sn (args' := [.sl [.sc] (b.map DV.str)]) (res := [.bool (isBl b)]) rfl (by simp only [sns, S_spec_l6Blocks, sn_cl _ _ (txts_cl b), Option.bind_some]) ?_ rfl, adL_sc rfl]
  refine run1_of (ν := []) rfl rfl rfl (r := [.bool (isBl b)]) ?_ (resO_sc rfl)
  rw [spec_l6Blocks_eq]
  unfold P_spec_l6Blocks isBl
  refine Eq.trans (by simp) (loop_acc (F := P_spec_l6Blocks.l0 N (qfn P N n) 0) (N := N) (σ := Unit) (len := b.length) (fun i _ => ([.sl [.sc] (b.map DV.str), .sl [.sc] (b.map DV.str), .int .i64 (b.length : Nat), .int .i64 (i : Nat)] : List DV)) (fun _ _ => []) (fun _ _ => True) (fun i _ => some ([DV.bool (decide ((b.length : Int) = 16) && (b.drop i).all two)], []))
    ?_ ?_ b.length (i := 0) (s := ()) trivial (by omega) (by omega))
  · intro i _ rec hi _
    have hx : b.drop i = b[i] :: b.drop (i + 1) := List.drop_eq_getElem_cons hi
    rw [hx]
    unfold P_spec_l6Blocks.l0
    simp only [u4_list, bd_some, qBin_lss, qB_bool, Int.ofNat_lt, hi, decide_true, cond_true, qIA_map _ (show [Sh.sc].length = 1 from rfl) hi, qLd_rp, cellsD_str, getC_one, List.getElem?_cons_zero, Option.map_some, b2_some, qLs_str, qBin_neq, List.all_cons]
    by_cases hg : (b[i].size : Int) = 2
    · refine .inl ⟨(), trivial, ?_, by simp [two, hg]⟩
      simp only [hg, ne_eq, not_true_eq_false, decide_false, cond_false, qBin_add, bd_some]
      rw [wrapI (n := (i : Int) + 1) (by constructor <;> omega)]
      rfl
    · refine .inr ?_
      simp [two, hg]
  · intro _ rec _
    unfold P_spec_l6Blocks.l0
    simp
def ordV : List Rec → Int → Bool
  | [], _ => true
  | r :: l, f => if r.kind = 3 then (if r.loc = f + 1 then ordV l (f + 1) else false) else ordV l f
def goodV (v : Vol) : Bool := isBl v.base && decide (v.log.length ≤ 40) && v.log.all good && (decide (0 ≤ v.sure) && decide (v.sure ≤ v.log.length)) && (decide (0 ≤ v.folded) && decide (v.folded ≤ 200)) && ordV v.log v.folded
theorem ord_loop {N : Nat} {call : CW} {bs : Nat} (hN : 4294967296 ≤ N) (l : List Rec) (h40 : l.length ≤ 40) (f : Int) (h0 : 0 ≤ f) (h1 : f ≤ 200) :
    iterD (P_impl_GoodVolume.l0 N call bs) N [.int .i64 f, .sl shRec (l.map Rec.enc), .int .i64 (l.length : Nat), .int .i64 0] [] = some ([.bool (ordV l f)], []) := by
  refine Eq.trans (by simp) (loop_acc (F := P_impl_GoodVolume.l0 N call bs) (N := N) (σ := Int) (len := l.length) (fun i f => ([.int .i64 f, .sl shRec (l.map Rec.enc), .int .i64 (l.length : Nat), .int .i64 (i : Nat)] : List DV)) (fun _ _ => []) (fun i f => 0 ≤ f ∧ f ≤ 200 + (i : Nat)) (fun i f => some ([DV.bool (ordV (l.drop i) f)], []))
    ?_ ?_ l.length (i := 0) (s := f) ⟨h0, by omega⟩ (by omega) (by omega))
  · intro i f rec hi ⟨g0, g1⟩
    have hx : l.drop i = l[i] :: l.drop (i + 1) := List.drop_eq_getElem_cons hi
    rw [hx]
    unfold P_impl_GoodVolume.l0
    simp only [u4_list, bd_some, qBin_lss, qB_bool, Int.ofNat_lt, hi, decide_true, cond_true, qIA_map _ (show shRec.length = 4 from rfl) hi, qLd_rp, Rec.get, Option.map_some, b2_some]
    unfold Rec.enc
    simp only [a4_agg, qBin_eql, qBin_add, bd_some, qB_bool, qBin_neq]
    rw [wrapI (n := (i : Int) + 1) (by constructor <;> omega), wrapI (n := f + 1) (by constructor <;> omega)]
    by_cases hk : l[i].kind = 3
    · by_cases hl : l[i].loc = f + 1
      · refine .inl ⟨f + 1, by omega, ?_, by simp [ordV, hk, hl]⟩
        simp only [hk, hl, decide_true, cond_true, ne_eq, not_true_eq_false, decide_false, cond_false]
        rfl
      · refine .inr ?_
        simp [ordV, hk, hl]
    · refine .inl ⟨f, by omega, ?_, by simp [ordV, hk]⟩
      simp only [hk, decide_false, cond_false]
      rfl
  · intro f rec _
    unfold P_impl_GoodVolume.l0
    simp [ordV]
end Go.Lg.Pv.Q
namespace Go.Lg.Pv.Q
open Go Go.Lg Go.Lg.Pv
set_option linter.unusedVariables false
set_option linter.unusedSimpArgs false
set_option maxRecDepth 100000

theorem cq_good {N n : Nat} (hN : 4294967296 ≤ N) (l : List Rec) (hlen : l.length ≤ 1048576) (μ : PH) : cq S_impl_areAll_impl_Record (qfn P N (n + 6) n_impl_areAll_impl_Record) [.sl shRec (l.map Rec.enc), fGood] μ = some ([.bool (l.all good)], μ) := by
  rw [cq_sn (args' := [.sl shRec (l.map Rec.enc), fGood]) rfl (by simp only [sns, S_impl_areAll_impl_Record, sn_cl _ _ (recs_cl l), sn_cl _ _ (show cl fGood = true from rfl), Option.bind_some]) (areAll_ok (n := n) hN l hlen) rfl, adL_sc rfl]
theorem cq_l3Good {N n : Nat} (hN : 4294967296 ≤ N) (l : List Rec) (hlen : l.length ≤ 1048576) (μ : PH) : cq S_spec_l3Good (qfn P N (n + 4) n_spec_l3Good) [.sl shRec (l.map Rec.enc)] μ = some ([.bool (l.all good)], μ) := by
  rw [cq_sn (args' := [.sl shRec (l.map Rec.enc)]) rfl (by simp only [sns, S_spec_l3Good, sn_cl _ _ (recs_cl l), Option.bind_some]) (l3Good_ok (n := n) hN l hlen) rfl, adL_sc rfl]
theorem goodVI {N n : Nat} (hN : 4294967296 ≤ N) (v : Vol) (h1 : v.base.length ≤ 1048576) (h2 : v.log.length ≤ 1048576) (μ : PH) :
    cq S_impl_GoodVolume (qfn P N (n + 7) n_impl_GoodVolume) [v.enc] μ = some ([.bool (goodV v)], μ) := by
  rw [cq_sn (args' := [v.enc]) (res := [.bool (goodV v)]) rfl (by simp only [sns, S_impl_GoodVolume, sn_cl _ _ (Vol.cl v), Option.bind_some]) ?_ rfl, adL_sc rfl]
  refine run1_of (ν := []) rfl rfl rfl (r := [.bool (goodV v)]) ?_ (resO_sc rfl)
  rw [impl_GoodVolume_eq]
  unfold P_impl_GoodVolume goodV Vol.enc
  simp only [a4_agg, areBlocks_ok (n := n) hN v.base h1, c1_some, u1_list, qUn_not, bd_some, qB_bool, qLen_sl, List.length_map, qBin_gtr, cq_good (n := n) hN v.log h2, within_ok]
  cases e1 : isBl v.base
  · simp
  by_cases e2 : v.log.length ≤ 40
  · cases e3 : v.log.all good
    · simp [show ¬ ((v.log.length : Int) > 40) by omega]
    · have hlp : 0 ≤ v.folded → v.folded ≤ 200 → iterD (P_impl_GoodVolume.l0 N (qfn P N (n + 6)) 0) N [.int .i64 v.folded, .sl shRec (v.log.map Rec.enc), .int .i64 (v.log.length : Nat), .int .i64 0] [] = some ([.bool (ordV v.log v.folded)], []) := fun e6 e7 => ord_loop (bs := 0) (call := qfn P N (n + 6)) hN v.log e2 v.folded e6 e7
      have e8 : ¬ ((v.log.length : Int) > 40) := by omega
      by_cases e4 : 0 ≤ v.sure <;> by_cases e5 : v.sure ≤ v.log.length <;> by_cases e6 : 0 ≤ v.folded <;> by_cases e7 : v.folded ≤ 200 <;> simp [e8, e2, e4, e5, e6, e7, hlp]
  · simp [show ((v.log.length : Int) > 40) by omega, e2]
theorem goodVS {N n : Nat} (hN : 4294967296 ≤ N) (v : Vol) (h1 : v.base.length ≤ 1048576) (h2 : v.log.length ≤ 1048576) (μ : PH) :
    cq S_spec_GoodVolume (qfn P N (n + 7) n_spec_GoodVolume) [v.enc] μ = some ([.bool (goodV v)], μ) := by
  rw [cq_sn (args' := [v.enc]) (res := [.bool (goodV v)]) rfl (by simp only [sns, S_spec_GoodVolume, sn_cl _ _ (Vol.cl v), Option.bind_some]) ?_ rfl, adL_sc rfl]
  refine run1_of (ν := []) rfl rfl rfl (r := [.bool (goodV v)]) ?_ (resO_sc rfl)
  rw [spec_GoodVolume_eq]
  unfold P_spec_GoodVolume goodV Vol.enc
  simp only [a4_agg, l6Blocks_ok (n := n + 5) hN v.base h1, c1_some, u1_list, qUn_not, bd_some, qB_bool, qLen_sl, List.length_map, qBin_gtr, cq_l3Good (n := n + 2) hN v.log h2, l1In_ok]
  cases e1 : isBl v.base
  · simp
  by_cases e2 : v.log.length ≤ 40
  · cases e3 : v.log.all good
    · simp [show ¬ ((v.log.length : Int) > 40) by omega]
    · have hlp : 0 ≤ v.folded → v.folded ≤ 200 → iterD (P_spec_GoodVolume.l0 N (qfn P N (n + 6)) 0) N [.int .i64 v.folded, .sl shRec (v.log.map Rec.enc), .int .i64 (v.log.length : Nat), .int .i64 0] [] = some ([.bool (ordV v.log v.folded)], []) := fun e6 e7 => ord_loop (bs := 0) (call := qfn P N (n + 6)) hN v.log e2 v.folded e6 e7
      have e8 : ¬ ((v.log.length : Int) > 40) := by omega
      by_cases e4 : 0 ≤ v.sure <;> by_cases e5 : v.sure ≤ v.log.length <;> by_cases e6 : 0 ≤ v.folded <;> by_cases e7 : v.folded ≤ 200 <;> simp [e8, e2, e4, e5, e6, e7, hlp]
  · simp [show ((v.log.length : Int) > 40) by omega, e2]
theorem goodV_get {v : Vol} (h : goodV v = true) : v.base.length = 16 ∧ v.log.length ≤ 40 ∧ v.log.all good = true := by
  unfold goodV isBl at h
  simp only [Bool.and_eq_true, decide_eq_true_eq] at h
  exact ⟨by omega, by omega, by simp_all⟩
theorem flatL_txt : ∀ l : List ByteArray, flatL (l.map DV.str) = true
  | [] => rfl
  | x :: r => by simp [flatL, flat, flatL_txt r]
theorem qAp_txt {l : List ByteArray} (h0 : 0 < l.length) (h1 : l.length ≤ 1048576) : qAp [] false [.sc] 1 16 (.e0 1) (.sl [.sc] (l.map DV.str)) = some (.own 0 l.length 0 l.length l.length false, [tB l.length l]) := by
  have h2 : ((l.length : Nat) : Int) * 16 ≤ 140737488355328 := by omega
  simp [qAp, elsOf, putEs, flatL_txt, show ¬ l = [] by intro h; subst h; simp at h0, tB]
  omega
theorem clone_ok {N n : Nat} {l : List ByteArray} (h16 : l.length = 16) : run1 S_slices_Clone_string_string (qfn P N (n + 1) n_slices_Clone_string_string) [.sl [.sc] (l.map DV.str)] = some ([.sl [.sc] (l.map DV.str)], []) := by
  refine run1_of rfl rfl rfl (r := [.own 0 16 0 16 16 false]) (ν := [tB 16 l]) (ν' := kl [tB 16 l] 0) ?_ ?_
  · rw [slices_Clone_string_string_eq]
    unfold P_slices_Clone_string_string
    have hq : qBin [] (.slice 9) .eql (.sl [.sc] (l.map DV.str)) .nil = some (.bool false) := by
      match l, h16 with
      | x :: r, _ => rfl
    have hb : qBS [] false [.sc] false [.str ⟨#[]⟩] 1 0 [] = some (.e0 1, []) := rfl
    have ha := qAp_txt (l := l) (by omega) (by omega)
    rw [h16] at ha
    simp only [hq, bd_some, qB_bool, cond_false, hb, b2_some, ha]
  · have hb : bk [tB 16 l] 0 16 = some (tB 16 l) := rfl
    have t1 := tk_own (s := .sl [.sc]) (x := false) (c := 16) hb rfl rfl (own_all (b := tB 16 l) (l := l.map DV.str) (n := 16) rfl (by simp [h16])) (txt_cl l)
    simp only [resO, S_slices_Clone_string_string, onS, List.headD_cons, t1, Option.bind_some]
    rfl
theorem res_oB (u : Nat) {bl : List ByteArray} (h16 : bl.length = 16) : resO [[.sl [.sc]]] [oB u] [tB u bl] = some ([.sl [.sc] (bl.map DV.str)], kl [tB u bl] 0) := by
  have hb : bk [tB u bl] 0 u = some (tB u bl) := by simp [bk, tB]
  have t1 := tk_own (s := .sl [.sc]) (x := false) (c := 16) hb rfl rfl (own_all (b := tB u bl) (l := bl.map DV.str) (n := 16) rfl (by simp [h16])) (txt_cl bl)
  simp only [resO, onS, List.headD_cons, t1, Option.bind_some]
  rfl
theorem blocks_ok {N n : Nat} (hN : 4294967296 ≤ N) (v : Vol) (h16 : v.base.length = 16) (h40 : v.log.length ≤ 40) (hg : v.log.all good = true) :
    run1 S_impl_Volume_blocks (qfn P N (n + 2) n_impl_Volume_blocks) [v.enc] = some ([.sl [.sc] ((foldR v.log v.base).map DV.str)], []) := by
  refine run1_of rfl rfl rfl (r := [oB 0]) (ν := [tB 0 (foldR v.log v.base)]) ?_ (res_oB 0 (by rw [foldR_len]; exact h16))
  rw [impl_Volume_blocks_eq]
  unfold P_impl_Volume_blocks Vol.enc
  have hc : cq S_slices_Clone_string_string (qfn P N (n + 1) n_slices_Clone_string_string) [.sl [.sc] (v.base.map DV.str)] [] = some ([oB 0], [tB 0 v.base]) := by
    rw [cq_sn (args' := [.sl [.sc] (v.base.map DV.str)]) rfl (by simp only [sns, S_slices_Clone_string_string, sn_cl _ _ (txts_cl v.base), Option.bind_some]) (clone_ok (n := n) h16) rfl, adL_sl]
    simp only [List.length_map, h16]; rfl
  simp only [a4_agg, hc, c1_some, u1_list, qLen_sl, List.length_map, bd_some]
  refine (loop_acc (F := P_impl_Volume_blocks.l0 N (qfn P N (n + 1)) 0) (N := N) (σ := List ByteArray) (len := v.log.length) (fun i _ => ([oB 0, .sl shRec (v.log.map Rec.enc), .int .i64 (v.log.length : Nat), .int .i64 (i : Nat)] : List DV)) (fun _ bl => [tB 0 bl]) (fun _ bl => bl.length = 16) (fun i bl => some ([oB 0], [tB 0 (foldR (v.log.drop i) bl)]))
    ?_ ?_ v.log.length (i := 0) (s := v.base) h16 (by omega) (by omega))
  · intro i bl rec hi hb16
    have hx : v.log.drop i = v.log[i] :: v.log.drop (i + 1) := List.drop_eq_getElem_cons hi
    have hd := do_ok (v := 0) (n := n) hN hb16 (all_get hg hi)
    refine .inl ⟨doN v.log[i] bl v.log[i].long.toNat, by rw [doN_len]; exact hb16, ?_, by rw [hx]; rfl⟩
    unfold P_impl_Volume_blocks.l0
    simp only [u4_list, bd_some, qBin_lss, qB_bool, Int.ofNat_lt, hi, decide_true, cond_true, qIA_map _ (show shRec.length = 4 from rfl) hi, qLd_rp, Rec.get, Option.map_some, b2_some]
    unfold Rec.enc at hd ⊢
    simp only [a4_agg, hd, c0_some, qBin_add, bd_some]
    rw [wrapI (n := (i : Int) + 1) (by constructor <;> omega)]
    rfl
  · intro bl rec _
    unfold P_impl_Volume_blocks.l0
    simp [foldR]
theorem l6In_ok {N n : Nat} (hN : 4294967296 ≤ N) (v : Vol) (h16 : v.base.length = 16) (h40 : v.log.length ≤ 40) (hg : v.log.all good = true) :
    run1 S_spec_l6In (qfn P N (n + 2) n_spec_l6In) [v.enc] = some ([.sl [.sc] ((foldR v.log v.base).map DV.str)], []) := by
  refine run1_of rfl rfl rfl (r := [oB 16]) (ν := [tB 16 (foldR v.log v.base)]) ?_ (res_oB 16 (by rw [foldR_len]; exact h16))
  rw [spec_l6In_eq]
  unfold P_spec_l6In Vol.enc
  have hb : qBS [] false [.sc] false [.str ⟨#[]⟩] 1 0 [] = some (.e0 1, []) := rfl
  have ha := qAp_txt (l := v.base) (by omega) (by omega)
  rw [h16] at ha
  simp only [a4_agg, hb, ha, b2_some, qLen_sl, List.length_map, bd_some, List.length_nil]
  refine (loop_acc (F := P_spec_l6In.l0 N (qfn P N (n + 1)) 0) (N := N) (σ := List ByteArray) (len := v.log.length) (fun i _ => ([oB 16, .sl shRec (v.log.map Rec.enc), .int .i64 (v.log.length : Nat), .int .i64 (i : Nat)] : List DV)) (fun _ bl => [tB 16 bl]) (fun _ bl => bl.length = 16) (fun i bl => some ([oB 16], [tB 16 (foldR (v.log.drop i) bl)]))
    ?_ ?_ v.log.length (i := 0) (s := v.base) h16 (by omega) (by omega))
  · intro i bl rec hi hb16
    have hx : v.log.drop i = v.log[i] :: v.log.drop (i + 1) := List.drop_eq_getElem_cons hi
    have hd := l3Do_ok (v := 16) (n := n) hN hb16 (all_get hg hi)
    refine .inl ⟨doN v.log[i] bl v.log[i].long.toNat, by rw [doN_len]; exact hb16, ?_, by rw [hx]; rfl⟩
    unfold P_spec_l6In.l0
    simp only [u4_list, bd_some, qBin_lss, qB_bool, Int.ofNat_lt, hi, decide_true, cond_true, qIA_map _ (show shRec.length = 4 from rfl) hi, qLd_rp, Rec.get, Option.map_some, b2_some]
    unfold Rec.enc at hd ⊢
    simp only [a4_agg, hd, c0_some, qBin_add, bd_some]
    rw [wrapI (n := (i : Int) + 1) (by constructor <;> omega)]
    rfl
  · intro bl rec _
    unfold P_spec_l6In.l0
    simp [foldR]
def outV (v : Vol) : List ByteArray × Bool := if goodV v = true then (foldR v.log v.base, true) else ([], false)
theorem outV_len (v : Vol) : (outV v).1.length ≤ 16 := by
  unfold outV
  split
  · rename_i h; rw [foldR_len, (goodV_get h).1]; exact Nat.le_refl _
  · decide
theorem res_ob (bl : List ByteArray) (h16 : bl.length = 16) (b : Bool) : resO [[.sl [.sc]], [.sc]] [oB 0, .bool b] [tB 0 bl] = some ([.sl [.sc] (bl.map DV.str), .bool b], kl [tB 0 bl] 0) := by
  have hb : bk [tB 0 bl] 0 0 = some (tB 0 bl) := rfl
  have t1 := tk_own (s := .sl [.sc]) (x := false) (c := 16) hb rfl rfl (own_all (b := tB 0 bl) (l := bl.map DV.str) (n := 16) rfl (by simp [h16])) (txt_cl bl)
  simp only [resO, onS, List.headD_cons, t1, Option.bind_some]
  rfl
theorem blocksI {N n : Nat} (hN : 4294967296 ≤ N) (v : Vol) (h1 : v.base.length ≤ 1048576) (h2 : v.log.length ≤ 1048576) :
    run1 S_impl_BlocksIn (qfn P N (n + 8) n_impl_BlocksIn) [v.enc] = some ([.sl [.sc] ((outV v).1.map DV.str), .bool (outV v).2], []) := by
  have hgd := goodVI (n := n) hN v h1 h2 []
  by_cases hg : goodV v = true
  · obtain ⟨h16, h40, hgl⟩ := goodV_get hg
    have ho : outV v = (foldR v.log v.base, true) := by unfold outV; rw [if_pos hg]
    rw [ho]
    have h16' : (foldR v.log v.base).length = 16 := by rw [foldR_len]; exact h16
    have hbl := cq_sn (μ := []) (s := S_impl_Volume_blocks) (args := [v.enc]) (args' := [v.enc]) rfl (by simp only [sns, S_impl_Volume_blocks, sn_cl _ _ (Vol.cl v), Option.bind_some]) (blocks_ok (n := n + 5) hN v h16 h40 hgl) rfl
    rw [adL_sl] at hbl
    simp only [List.length_map, h16', List.length_nil, List.nil_append] at hbl
    refine run1_of rfl rfl rfl (r := [oB 0, .bool true]) (ν := [tB 0 (foldR v.log v.base)]) ?_ (res_ob _ h16' true)
    rw [impl_BlocksIn_eq]
    unfold P_impl_BlocksIn
    unfold Vol.enc at hgd hbl ⊢
    simp only [a4_agg, hgd, c1_some, u1_list, qUn_not, bd_some, qB_bool, hg, Bool.not_true, cond_false, hbl]
    rfl
  · have ho : outV v = ([], false) := by unfold outV; rw [if_neg hg]
    rw [ho]
    refine run1_of rfl rfl rfl (r := [.nil, .bool false]) (ν := []) ?_ rfl
    rw [impl_BlocksIn_eq]
    unfold P_impl_BlocksIn
    unfold Vol.enc at hgd ⊢
    simp only [a4_agg, hgd, c1_some, u1_list, qUn_not, bd_some, qB_bool, hg, Bool.not_false, cond_true]
theorem blocksS {N n : Nat} (hN : 4294967296 ≤ N) (v : Vol) (h1 : v.base.length ≤ 1048576) (h2 : v.log.length ≤ 1048576) :
    run1 S_spec_BlocksIn (qfn P N (n + 8) n_spec_BlocksIn) [v.enc] = some ([.sl [.sc] ((outV v).1.map DV.str), .bool (outV v).2], []) := by
  have hgd := goodVS (n := n) hN v h1 h2 []
  by_cases hg : goodV v = true
  · obtain ⟨h16, h40, hgl⟩ := goodV_get hg
    have ho : outV v = (foldR v.log v.base, true) := by unfold outV; rw [if_pos hg]
    rw [ho]
    have h16' : (foldR v.log v.base).length = 16 := by rw [foldR_len]; exact h16
    have hbl := cq_sn (μ := []) (s := S_spec_l6In) (args := [v.enc]) (args' := [v.enc]) rfl (by simp only [sns, S_spec_l6In, sn_cl _ _ (Vol.cl v), Option.bind_some]) (l6In_ok (n := n + 5) hN v h16 h40 hgl) rfl
    rw [adL_sl] at hbl
    simp only [List.length_map, h16', List.length_nil, List.nil_append] at hbl
    refine run1_of rfl rfl rfl (r := [oB 0, .bool true]) (ν := [tB 0 (foldR v.log v.base)]) ?_ (res_ob _ h16' true)
    rw [spec_BlocksIn_eq]
    unfold P_spec_BlocksIn
    unfold Vol.enc at hgd hbl ⊢
    simp only [a4_agg, hgd, c1_some, u1_list, qUn_not, bd_some, qB_bool, hg, Bool.not_true, cond_false, hbl]
    rfl
  · have ho : outV v = ([], false) := by unfold outV; rw [if_neg hg]
    rw [ho]
    refine run1_of rfl rfl rfl (r := [.nil, .bool false]) (ν := []) ?_ rfl
    rw [spec_BlocksIn_eq]
    unfold P_spec_BlocksIn
    unfold Vol.enc at hgd ⊢
    simp only [a4_agg, hgd, c1_some, u1_list, qUn_not, bd_some, qB_bool, hg, Bool.not_false, cond_true]
end Go.Lg.Pv.Q
namespace Go.Lg.Pv.Q
open Go Go.Lg Go.Lg.Pv
set_option linter.unusedVariables false
set_option linter.unusedSimpArgs false
set_option maxRecDepth 100000

def volOwn (i : Nat) (v : Vol) : DV := .agg [.own i 0 0 v.base.length v.base.length false, .int .i64 v.folded, .own (i + 1) 0 0 v.log.length v.log.length false, .int .i64 v.sure]
theorem snV {μ : PH} {i : Nat} {v : Vol} (hi : bk μ i 0 = some (tB 0 v.base)) (hj : bk μ (i + 1) 0 = some (rB v.log)) : sn μ shVol (volOwn i v) = some v.enc := by
  have e1 : snC μ 6 (.sl [.sc]) (.own i 0 0 v.base.length v.base.length false) = some (.sl [.sc] (v.base.map DV.str)) := snT (s := [.sl [.sc]]) hi rfl rfl rfl
  have e2 : snC μ 6 (.sl shRec) (.own (i + 1) 0 0 v.log.length v.log.length false) = some (.sl shRec (v.log.map Rec.enc)) := snR (s := [.sl shRec]) hj rfl rfl rfl
  have e3 : ∀ (s : Sh) (k : IntKind) (a : Int), snC μ 6 s (.int k a) = some (.int k a) := fun _ _ _ => rfl
  simp only [sn, onE, volOwn, zipO, List.headD_cons, List.tail_cons, e1, e2, e3, Option.bind_some, Option.map_some]
  rfl
theorem a4_vol {α : Type} (v : Vol) (k : DV → DV → DV → DV → Option α) : a4 v.enc k = k (.sl [.sc] (v.base.map DV.str)) (.int .i64 v.folded) (.sl shRec (v.log.map Rec.enc)) (.int .i64 v.sure) := rfl
theorem fold_vol (v : Vol) : DV.agg [.sl [.sc] (v.base.map DV.str), .int .i64 v.folded, .sl shRec (v.log.map Rec.enc), .int .i64 v.sure] = v.enc := rfl
theorem a4_own {α : Type} (i : Nat) (v : Vol) (k : DV → DV → DV → DV → Option α) : a4 (volOwn i v) k = k (.own i 0 0 v.base.length v.base.length false) (.int .i64 v.folded) (.own (i + 1) 0 0 v.log.length v.log.length false) (.int .i64 v.sure) := rfl
theorem fold_own (i : Nat) (v : Vol) : DV.agg [.own i 0 0 v.base.length v.base.length false, .int .i64 v.folded, .own (i + 1) 0 0 v.log.length v.log.length false, .int .i64 v.sure] = volOwn i v := rfl
section
variable {N n : Nat} (hN : 4294967296 ≤ N)
include hN
theorem Q_toV (v : Vol) (h1 : v.base.length ≤ 1048576) (h2 : v.log.length ≤ 1048576) (μ : PH) : cq S_laws_toVolume (qfn P N (n + 9) n_laws_toVolume) [v.enc] μ = some ([volOwn μ.length v], μ ++ [tB 0 v.base, rB v.log]) := by
  rw [cq_sn (args' := [v.enc]) rfl (by simp only [sns, S_laws_toVolume, sn_cl _ _ (Vol.cl v), Option.bind_some]) (toVolume_ok (n := n + 6) hN v h1 h2) rfl]
  simp [adL, adV, unfL, Vol.enc, volOwn, tB, rB]
theorem Q_bS (v : Vol) (h1 : v.base.length ≤ 1048576) (h2 : v.log.length ≤ 1048576) {μ : PH} {i : Nat} (hi : bk μ i 0 = some (tB 0 v.base)) (hj : bk μ (i + 1) 0 = some (rB v.log)) : cq S_spec_BlocksIn (qfn P N (n + 9) n_spec_BlocksIn) [volOwn i v] μ = some ([.own μ.length 0 0 (outV v).1.length (outV v).1.length false, .bool (outV v).2], μ ++ [tB 0 (outV v).1]) := by
  rw [cq_sn (args' := [v.enc]) rfl (by simp only [sns, S_spec_BlocksIn, snV hi hj, Option.bind_some]) (blocksS (n := n + 1) hN v h1 h2) rfl]
  have : adL true μ [.sl [.sc] ((outV v).1.map DV.str), .bool (outV v).2] = ([.own μ.length 0 0 ((outV v).1.map DV.str).length ((outV v).1.map DV.str).length false, .bool (outV v).2], μ ++ [tB 0 (outV v).1]) := rfl
  rw [this, List.length_map]
theorem Q_bI (v : Vol) (h1 : v.base.length ≤ 1048576) (h2 : v.log.length ≤ 1048576) {μ : PH} {i : Nat} (hi : bk μ i 0 = some (tB 0 v.base)) (hj : bk μ (i + 1) 0 = some (rB v.log)) : cq S_impl_BlocksIn (qfn P N (n + 9) n_impl_BlocksIn) [volOwn i v] μ = some ([.own μ.length 0 0 (outV v).1.length (outV v).1.length false, .bool (outV v).2], μ ++ [tB 0 (outV v).1]) := by
  rw [cq_sn (args' := [v.enc]) rfl (by simp only [sns, S_impl_BlocksIn, snV hi hj, Option.bind_some]) (blocksI (n := n + 1) hN v h1 h2) rfl]
  have : adL true μ [.sl [.sc] ((outV v).1.map DV.str), .bool (outV v).2] = ([.own μ.length 0 0 ((outV v).1.map DV.str).length ((outV v).1.map DV.str).length false, .bool (outV v).2], μ ++ [tB 0 (outV v).1]) := rfl
  rw [this, List.length_map]
theorem Q_eqT (O : List ByteArray) (hO : O.length ≤ 1048576) {μ : PH} {i j : Nat} (hi : bk μ i 0 = some (tB 0 O)) (hj : bk μ j 0 = some (tB 0 O)) : cq S_laws_eqStringS (qfn P N (n + 9) n_laws_eqStringS) [.own i 0 0 O.length O.length false, .own j 0 0 O.length O.length false] μ = some ([.bool true], μ) := by
  rw [cq_sn (args' := [.sl [.sc] (O.map DV.str), .sl [.sc] (O.map DV.str)]) rfl (by simp only [sns, S_laws_eqStringS, snT hi rfl rfl rfl, snT hj rfl rfl rfl, Option.bind_some]) (eqStringS_ok (n := n + 8) hN O O hO hO) rfl, adL_sc rfl]
  simp
theorem Q_eqV (v : Vol) (h1 : v.base.length ≤ 1048576) (h2 : v.log.length ≤ 1048576) {μ : PH} {i j : Nat} (hi : bk μ i 0 = some (tB 0 v.base)) (hi' : bk μ (i + 1) 0 = some (rB v.log)) (hj : bk μ j 0 = some (tB 0 v.base)) (hj' : bk μ (j + 1) 0 = some (rB v.log)) : cq S_laws_eqVolume (qfn P N (n + 9) n_laws_eqVolume) [volOwn i v, volOwn j v] μ = some ([.bool true], μ) := by
  rw [cq_sn (args' := [v.enc, v.enc]) rfl (by simp only [sns, S_laws_eqVolume, snV hi hi', snV hj hj', Option.bind_some]) (eqVolume_ok (n := n + 6) hN v v h1 h2 h1 h2) rfl, adL_sc rfl]
  simp
theorem Q_heldT (m : Nat) (hm : m ≤ 1048576) {μ : PH} {i : Nat} (hi : bk μ i 0 = some (tB 0 (marks 1 m))) : cq S_laws_heldStringS (qfn P N (n + 9) n_laws_heldStringS) [.own i 0 0 m m false, .int .i64 1] μ = some ([.int .i64 (1 + m)], μ) := by
  rw [cq_sn (args' := [.sl [.sc] ((marks 1 m).map DV.str), .int .i64 1]) rfl (by simp only [sns, S_laws_heldStringS, snT hi rfl rfl (marks_len 1 m).symm, snI, Option.bind_some]) (heldStringS_ok (n := n + 7) hN m 1 hm (by decide) (by decide)) rfl, adL_sc rfl]
theorem markV (v : Vol) (h1 : v.base.length ≤ 1048576) (h2 : v.log.length ≤ 1048576) {μ : PH} {i : Nat} (hi : bk μ i 0 = some (tB 0 v.base)) (hj : bk μ (i + 1) 0 = some (rB v.log)) :
    qfn P N (n + 9) n_laws_markVolume [volOwn i v, .int .i64 1] μ = some ([.int .i64 (1 + v.base.length + 4 * v.log.length)], (μ.set i { tB 0 v.base with el := (marks 1 v.base.length).map DV.str }).set (i + 1) { rB v.log with el := (marksR (1 + v.base.length) v.log.length).map Rec.enc }) := by
  rw [laws_markVolume_eq]
  unfold P_laws_markVolume volOwn
  simp only [a4_agg]
  rw [markStringS_ok (n := n + 6) hN hi rfl rfl rfl h1 (by decide) (by decide)]
  simp only [c1_some, u1_list]
  rw [markRecordS_ok (n := n + 6) hN (by rw [bk_set_ne (by omega)]; exact hj) rfl rfl rfl h2 (by omega) (by omega)]
  simp only [c1_some, u1_list]
theorem law_ok (v : Vol) (hv : v.ok) : ∃ μ', qfn P N (n + 10) n_laws_FnExactBlocksIn [v.enc] [] = some ([.bool true], μ') := by
  rw [laws_FnExactBlocksIn_eq]
  unfold P_laws_FnExactBlocksIn
  simp only [a4_vol, fold_vol]
  rw [cq_sn (args' := [v.enc, .int .i64 1048576]) rfl (by simp only [sns, S_laws_szVolume, sn_cl _ _ (Vol.cl v), snI, Option.bind_some]) (szVolume_ok (n := n + 6) hN v hv 1048576 (by decide) (by decide)) rfl, adL_sc rfl]
  simp only [c1_some, u1_list, qBin_lss, bd_some, qB_bool]
  by_cases hneg : szVol v 1048576 < 0
  · exact ⟨_, by simp only [hneg, decide_true, cond_true]; rfl⟩
  obtain ⟨h1, h2⟩ := szVol_le (by decide) hneg
  have ho := outV_len v
  simp only [hneg, decide_false, cond_false]
  generalize hO : outV v = o at ho
  rw [Q_toV hN v h1 h2]
  simp only [c1_some, u1_list, List.nil_append, List.length_nil]
  rw [Q_bS hN v h1 h2 rfl rfl, hO]
  simp only [c2_some, u2_list, List.length_cons, List.length_nil, List.cons_append, List.nil_append, Nat.zero_add, Nat.reduceAdd]
  rw [Q_toV hN v h1 h2]
  simp only [c1_some, u1_list, List.length_cons, List.length_nil, List.cons_append, List.nil_append, Nat.zero_add, Nat.reduceAdd]
  simp only [a4_own, fold_own]
  rw [Q_bI hN v h1 h2 rfl rfl, hO]
  simp only [c2_some, u2_list, List.length_cons, List.length_nil, List.cons_append, List.nil_append, Nat.zero_add, Nat.reduceAdd]
  rw [Q_eqT hN o.1 (by omega) rfl rfl]
  simp only [c1_some, u1_list, qUn_not, bd_some, qB_bool, Bool.not_true, cond_false, qBin_bne, beq_self_eq_true]
  rw [Q_toV hN v h1 h2]
  simp only [c1_some, u1_list, List.length_cons, List.length_nil, List.cons_append, List.nil_append, Nat.zero_add, Nat.reduceAdd]
  rw [Q_eqV hN v h1 h2 rfl rfl rfl rfl]
  simp only [c1_some, u1_list, qUn_not, bd_some, qB_bool, Bool.not_true, cond_false]
  rw [markV hN v h1 h2 rfl rfl]
  simp only [c1_some, u1_list, qBin_lss, bd_some, qB_bool, show ¬ ((1 : Int) + v.base.length + 4 * v.log.length < 0) by omega, decide_false, cond_false, List.set_cons_succ, List.set_cons_zero]
  rw [Q_eqT hN o.1 (by omega) rfl rfl]
  simp only [c1_some, u1_list, qUn_not, bd_some, qB_bool, Bool.not_true, cond_false, qBin_bne, beq_self_eq_true]
  rw [markStringS_ok (n := n + 7) hN (id := 5) (b := tB 0 o.1) rfl rfl rfl rfl (by omega) (by decide) (by decide)]
  simp only [c1_some, u1_list, List.set_cons_succ, List.set_cons_zero]
  rw [Q_heldT hN o.1.length (by omega) rfl]
  simp only [c1_some, u1_list, qBin_lss, bd_some, qB_bool, show ¬ ((1 : Int) + o.1.length < 0) by omega, decide_false, cond_false, qBin_neq, ne_eq, not_true_eq_false]
  rw [Q_toV hN v h1 h2]
  simp only [c1_some, u1_list, List.length_cons, List.length_nil, List.cons_append, List.nil_append, Nat.zero_add, Nat.reduceAdd]
  try simp only [a4_own, fold_own]
  rw [Q_bI hN v h1 h2 rfl rfl, hO]
  simp only [c2_some, u2_list, List.length_cons, List.length_nil, List.cons_append, List.nil_append, Nat.zero_add, Nat.reduceAdd]
  rw [Q_eqT hN o.1 (by omega) rfl rfl]
  simp only [c1_some, u1_list, qUn_not, bd_some, qB_bool, Bool.not_true, cond_false, qBin_bne, beq_self_eq_true]
  rw [Q_heldT hN o.1.length (by omega) rfl]
  simp only [c1_some, u1_list, qBin_lss, bd_some, qB_bool, show ¬ ((1 : Int) + o.1.length < 0) by omega, decide_false, cond_false, qBin_neq, ne_eq, not_true_eq_false]
  exact ⟨_, rfl⟩
end
end Go.Lg.Pv.Q
namespace Go.Proofs.Ytkamejfgfcbpaaa.fnExactBlocksIn
open Go.ChangeShapes Go.WideShapes Go.ChangeAt Go.RowKit
open Go.ChangeMaps (open_string shut_string)
open Go.Lg Go.Lg.Pv Go.Lg.Pv.Q
set_option linter.unusedVariables false
set_option maxRecDepth 100000
theorem own : ownKnob Try.prog.godebug = Option.none := by kernel_rfl
theorem laidOut : laidOutB Try.prog = true := by kernel_rfl
/-- records that are as they come in -/
structure RecK where
  r : Pv.Q.Rec
instance : Enc RecK where
  enc z := [.int .i64 z.r.kind, .int .i64 z.r.loc, .int .i64 z.r.long, .string z.r.data]
  good z := z.r.ok
  esz := 4
  eagg := true
  epos := by decide
  esc h := by cases h
  elen _ := rfl
  eones _ := fun v hv => by simp at hv; rcases hv with rfl | rfl | rfl | rfl <;> rfl
  edflt := ⟨rec0⟩
  egood := ⟨by constructor <;> decide, by constructor <;> decide, by constructor <;> decide, by decide⟩
theorem rec_elem {H : Type} {enc : TypeId × Value → H} {w : World} {base : Nat} {spare : Nat → Bool} {held : Bool} (fuel : Nat) (cs : List Value) (x : DataW H × List MemPlace)
    (h : DataW.trod enc Try.prog w base spare held fuel 96 cs = some x) : ∃ y : RecK, cs = Enc.enc y ∧ Enc.good y := by
  obtain ⟨xs, n, rfl, _, hl, hx, hf⟩ := DataW.trod_struct Try.underlying96 h
  have hc : Try.prog.cellsOf 96 = 4 := by kernel_rfl
  have h9 : Try.prog.cellsOf 9 = 1 := by kernel_rfl
  have h3 : Try.prog.cellsOf 3 = 1 := by kernel_rfl
  rw [hc] at hl
  match cs, hl with
  | [a, b, c, d], _ =>
    have f0 : DataW.trod enc Try.prog w base spare held n 3 (([a, b, c, d].drop 0).take (Try.prog.cellsOf 3)) = xs[0]? := hf 0 _ rfl
    have f1 : DataW.trod enc Try.prog w base spare held n 3 (([a, b, c, d].drop 1).take (Try.prog.cellsOf 3)) = xs[1]? := hf 1 _ rfl
    have f2 : DataW.trod enc Try.prog w base spare held n 3 (([a, b, c, d].drop 2).take (Try.prog.cellsOf 3)) = xs[2]? := hf 2 _ rfl
    have f3 : DataW.trod enc Try.prog w base spare held n 9 (([a, b, c, d].drop 3).take (Try.prog.cellsOf 9)) = xs[3]? := hf 3 _ rfl
    rw [h3, List.getElem?_eq_getElem (by rw [hx]; decide)] at f0
    rw [h3, List.getElem?_eq_getElem (by rw [hx]; decide)] at f1
    rw [h3, List.getElem?_eq_getElem (by rw [hx]; decide)] at f2
    rw [h9, List.getElem?_eq_getElem (by rw [hx]; decide)] at f3
    obtain ⟨m0, e0, _, g0⟩ := DataW.trod_int Try.underlying3 f0
    obtain ⟨m1, e1, _, g1⟩ := DataW.trod_int Try.underlying3 f1
    obtain ⟨m2, e2, _, g2⟩ := DataW.trod_int Try.underlying3 f2
    obtain ⟨s, e3, _, g3⟩ := DataW.trod_string Try.underlying9 f3
    have e0' : [a] = [.int .i64 m0] := e0
    have e1' : [b] = [.int .i64 m1] := e1
    have e2' : [c] = [.int .i64 m2] := e2
    have e3' : [d] = [.string s] := e3
    cases e0'
    cases e1'
    cases e2'
    cases e3'
    have k3 : (s.size : Int) ≤ 9223372036854775807 := by
      have : maxLen ≤ 9223372036854775807 := by decide
      omega
    have kk : ∀ m : Int, (Lit.int .i64 m).wf = true → inI m := fun m g => by
      simp only [Lit.wf, IntKind.min, IntKind.max, IntKind.signed, IntKind.bits] at g
      simp at g
      constructor <;> omega
    exact ⟨⟨⟨m0, m1, m2, s⟩⟩, rfl, kk _ g0, kk _ g1, kk _ g2, k3⟩

instance : Enc ByteArray where
  enc z := [.string z]
  good z := (z.size : Int) ≤ 9223372036854775807
  esz := 1
  eagg := false
  epos := by decide
  esc _ := rfl
  elen _ := rfl
  eones _ := fun v hv => by simp at hv; rcases hv with rfl; rfl
  edflt := ⟨#[]⟩
  egood := by decide
theorem RdT.ext {α : Type} [Enc α] {σ σ' : LH} {v : Value} {xs : List α} (h : RdT σ v xs) (hm : MD σ) (he : Ext σ σ') : RdT σ' v xs := by
  rcases h with h | ⟨b, o, c, blk, h1, h2, h3, h4, h5⟩
  · exact .inl h
  · have hb : b < σ.next := by
      rcases Nat.lt_or_ge b σ.next with h | h
      · exact h
      · rw [hm b h] at h3; cases h3
    exact .inr ⟨b, o, c, blk, h1, h2, by rw [he.eq b hb (fun h => h)]; exact h3, h4, fun i x hx => h5 i x hx⟩
theorem txt_elem {H : Type} {enc : TypeId × Value → H} {w : World} {base : Nat} {spare : Nat → Bool} {held : Bool} (fuel : Nat) (cs : List Value) (x : DataW H × List MemPlace)
    (h : DataW.trod enc Try.prog w base spare held fuel 9 cs = some x) : ∃ y : ByteArray, cs = Enc.enc y ∧ Enc.good y := by
  obtain ⟨s, e3, _, g3⟩ := DataW.trod_string Try.underlying9 h
  refine ⟨s, e3, ?_⟩
  have : maxLen ≤ 9223372036854775807 := by decide
  show (s.size : Int) ≤ _
  omega
theorem walk {H : Type} {enc : TypeId × Value → H} {spare : Nat → Bool} {held : Bool} {base base2 : Nat} (w : World) (v0 : Value) {d : DataW H} {p : List MemPlace} (hv : Value.okWide Try.prog w .any base2 51 v0) (h : DataW.Trod enc Try.prog w base spare held 51 v0 d p) :
    Calls Try.prog 5 #[v0] w fun e w' => e = .returned (.bool true) ∧ Below w.heap.size w w' := by
  obtain ⟨fuel, hf⟩ := h
  simp only [Value.okWide, Try.underlying51] at hv
  obtain ⟨cs, rfl, hcs, ts, hts, _, hrow⟩ := hv
  have hc : Try.prog.cellsOf 51 = 4 := by kernel_rfl
  have h24 : Try.prog.cellsOf 24 = 1 := by kernel_rfl
  have h22 : Try.prog.cellsOf 22 = 1 := by kernel_rfl
  have h3 : Try.prog.cellsOf 3 = 1 := by kernel_rfl
  have hct : Try.prog.cellTypes Try.prog.depth 51 = some [24, 3, 22, 3] := by kernel_rfl
  rw [hct] at hts; cases hts
  rw [hc] at hcs
  obtain ⟨a, b, c, e, rfl⟩ : ∃ a b c e, cs = #[a, b, c, e] := by
    obtain ⟨l⟩ := cs
    match l, hcs with
    | [a, b, c, e], _ => exact ⟨a, b, c, e, rfl⟩
  obtain ⟨xs, n, rfl, _, _, hx, hff⟩ := DataW.trod_struct Try.underlying51 hf
  have f0 : DataW.trod enc Try.prog w base spare held n 24 (([a, b, c, e].drop 0).take (Try.prog.cellsOf 24)) = xs[0]? := hff 0 _ rfl
  have f1 : DataW.trod enc Try.prog w base spare held n 3 (([a, b, c, e].drop 1).take (Try.prog.cellsOf 3)) = xs[1]? := hff 1 _ rfl
  have f2 : DataW.trod enc Try.prog w base spare held n 22 (([a, b, c, e].drop 2).take (Try.prog.cellsOf 22)) = xs[2]? := hff 2 _ rfl
  have f3 : DataW.trod enc Try.prog w base spare held n 3 (([a, b, c, e].drop 3).take (Try.prog.cellsOf 3)) = xs[3]? := hff 3 _ rfl
  rw [h24, List.getElem?_eq_getElem (by rw [hx]; decide)] at f0
  rw [h3, List.getElem?_eq_getElem (by rw [hx]; decide)] at f1
  rw [h22, List.getElem?_eq_getElem (by rw [hx]; decide)] at f2
  rw [h3, List.getElem?_eq_getElem (by rw [hx]; decide)] at f3
  have f0 : DataW.trod enc Try.prog w base spare held n 24 [a] = some _ := f0
  have f2 : DataW.trod enc Try.prog w base spare held n 22 [c] = some _ := f2
  obtain ⟨m1, e1, _, g1⟩ := DataW.trod_int Try.underlying3 f1
  obtain ⟨m3, e3, _, g3⟩ := DataW.trod_int Try.underlying3 f3
  have e1' : [b] = [.int .i64 m1] := e1
  have e3' : [e] = [.int .i64 m3] := e3
  cases e1'
  cases e3'
  have kk : ∀ m : Int, (Lit.int .i64 m).wf = true → inI m := fun m g => by
    simp only [Lit.wf, IntKind.min, IntKind.max, IntKind.signed, IntKind.bits] at g
    simp at g
    constructor <;> omega
  obtain ⟨u, hu, hcell0⟩ := hrow 0 a rfl
  simp at hu; subst hu
  obtain ⟨u, hu, hcell2⟩ := hrow 2 c rfl
  simp at hu; subst hu
  have spot : ∀ {t q : TypeId} {ad : Addr} {n c : Nat}, Try.prog.underlying t = some (.slice q) → Cell.okWide Try.prog w .any base2 t (.slice (some ad) n c) → ad.spot = none ∧ ad.block < w.heap.size := fun {t q ad n c} ht hcell => by
    simp only [Cell.okWide, ht, Cell.ok] at hcell
    obtain ⟨_, _, _, hsp, row, cells, hshape, _⟩ := hcell
    refine ⟨hsp, ?_⟩
    unfold World.shape? at hshape
    rcases Nat.lt_or_ge ad.block w.heap.size with h' | h'
    · exact h'
    · rw [Array.getElem?_eq_none h'] at hshape; cases hshape
  obtain ⟨va, zs, σ, π, v, hv1, hr, hro, _, _, hvr, hrd, hlen⟩ := open_list (α := ByteArray) (e := 9) txt_elem (fun y c hc => by
      simp only [Enc.enc, List.mem_cons, List.not_mem_nil, or_false] at hc
      rcases hc with rfl; rfl) (by kernel_rfl) Try.underlying24 f0 (fun ad n c he => by
      cases he
      exact spot Try.underlying24 hcell0) (HRel.empty w) ReadOnly.empty
  cases hv1
  obtain ⟨vb, ys, σ2, π2, v2, hv2, hr2, hro2, hext, hmore, hvr2, hrd2, hlen2⟩ := open_list (α := RecK) (e := 96) rec_elem (fun y c hc => by
      simp only [Enc.enc, List.mem_cons, List.not_mem_nil, or_false] at hc
      rcases hc with rfl | rfl | rfl | rfl <;> rfl) (by kernel_rfl) Try.underlying22 f2 (fun ad n c he => by
      cases he
      exact spot Try.underlying22 hcell2) hr hro
  cases hv2
  have hrd1 := RdT.ext hrd hr.mdom hext
  have ht1 := tv_list (f := DV.str) (sh := [.sc]) hro2 hr2.mdom hrd1 (fun x c hc => by
      simp only [Enc.enc, List.mem_cons, List.not_mem_nil, or_false] at hc
      rcases hc with rfl; rfl) (fun x => rfl) rfl
  have ht2 := tv_list (f := fun x : RecK => x.r.enc) (sh := shRec) hro2 hr2.mdom hrd2 (fun x c hc => by
      simp only [Enc.enc, List.mem_cons, List.not_mem_nil, or_false] at hc
      rcases hc with rfl | rfl | rfl | rfl <;> rfl) (fun x => rfl) rfl
  have hgood : ∀ r ∈ ys.map RecK.r, r.ok := fun r hr => by
    obtain ⟨x, hx, rfl⟩ := List.mem_map.1 hr
    obtain ⟨i, hi⟩ := List.getElem?_of_mem hx
    rcases hrd2 with ⟨rfl, _⟩ | ⟨_, _, _, _, _, _, _, _, hall⟩
    · cases hx
    · exact (hall i x hi).2
  have hgood1 : ∀ s ∈ zs, (s.size : Int) ≤ 9223372036854775807 := fun s hs => by
    obtain ⟨i, hi⟩ := List.getElem?_of_mem hs
    rcases hrd with ⟨rfl, _⟩ | ⟨_, _, _, _, _, _, _, _, hall⟩
    · cases hs
    · exact (hall i s hi).2
  obtain ⟨μ', hq⟩ := law_ok (N := 4294967296) (n := 0) (by decide) ⟨zs, m1, ys.map RecK.r, m3⟩ ⟨hgood1, hlen, hgood, by simpa using hlen2, kk _ g1, kk _ g3⟩
  have hta : TVs (St.bare σ2 (fun b => b < σ2.next)) [Vol.enc ⟨zs, m1, ys.map RecK.r, m3⟩] [.agg [v, .int .i64 m1, v2, .int .i64 m3].toArray] := by
    refine .cons (.agg _ _ (.cons ht1 (.cons (.int _ _) (.cons ?_ (.cons (.int _ _) .nil))))) .nil
    rw [List.map_map]; exact ht2
  obtain ⟨σ', hres⟩ := law_ev (goodOf (tis := tis) rfl (by kernel_rfl)) hr2.mdom hq hta
  refine law_walk_bool envE eqE hres hr2 hro2 (.cons ?_ .nil)
  exact VR.of_list (l := [v, .int .i64 m1, v2, .int .i64 m3]) (l' := [a, .int .i64 m1, c, .int .i64 m3]) (.cons (VR.mono hmore hvr) (.cons (.int _ _) (.cons hvr2 (.cons (.int _ _) .nil)))) (fun y hy => by
    simp at hy
    rcases hy with rfl | rfl | rfl | rfl
    · rcases hrd with ⟨_, rfl⟩ | ⟨_, _, _, _, rfl, _⟩ <;> rfl
    · rfl
    · rcases hrd2 with ⟨_, rfl⟩ | ⟨_, _, _, _, rfl, _⟩ <;> rfl
    · rfl)

theorem lifted (os : Os) (started : os.Started) (H : Type) (enc : TypeId × Value → H) :
    ReturnsInHanded {} Try.checked os 5 .any (Rows.fnExactBlocksInSpec.pre6 enc Try.prog Try.f5 Rows.fnExactBlocksInRow.domain false) (Rows.fnExactBlocksInSpec.post enc Try.prog Try.f5 false true false false) := by
  refine returnsInHanded_of_change_sized (C := Try.checked) own started (by kernel_rfl) Try.func5
    (ChangeSpec.witness6 (enc := enc) (C := Try.checked) false ⟨#[], #[.agg #[.slice Option.none 0 0, .int .i64 0, .slice Option.none 0 0, .int .i64 0]], []⟩ 8 (by kernel_rfl) (by kernel_rfl) (by kernel_rfl) (by kernel_rfl)) ?_
  intro W base args ds gs before hval0 hW hcnd hsz0 _
  have hval : ∀ (j : Nat) t v, Try.f5.params[j]? = some t → args[j]? = some v → Value.okWide Try.prog W .any base t v := hval0
  have hW' := hW
  obtain ⟨p, q, hA0, hV, rfl, hfz, hnd⟩ := hW
  have hA : DataW.TrodAll enc Try.prog W 0 (fun _ => true) true Try.f5.params.toList args.toList ds p := hA0
  rw [Try.params5] at hA hval
  obtain ⟨v0, vs0, d0, ds0, p0, q0, hargs, rfl, rfl, h0, r0⟩ := trodAll_cons hA
  obtain ⟨rfl, rfl, rfl⟩ := trodAll_nil r0
  obtain rfl : args = #[v0] := by cases args; simp_all
  obtain ⟨rfl, rfl⟩ := trodVars_none hV
  have k0 := h0
  have lt0 : ∀ x ∈ p0, x.block < W.heap.size := by obtain ⟨m, hm⟩ := k0; exact DataW.trod_lt m _ _ _ hm
  refine (walk W v0 (hval 0 51 v0 rfl rfl) h0).mono fun e W' ⟨he, bel⟩ => ?_
  subst he
  exact ⟨_, rfl, _, _, _, [], _, [], hW', trodAll_mk1 (shut_bool Try.underlying4 _), (trodAll_cons_mk (Below.trod laidOut (by kernel_rfl) (of_decide_eq_true (by kernel_rfl)) k0 bel lt0) trodAll_mk0), rfl, bel.frame _, fun h => by cases h⟩
theorem over : Rows.fnExactBlocksInRow.holds Try.pinned (OpenSpec.ofChange Rows.fnExactBlocksInSpec) :=
  OpenClaim.holds_of_wide 5 Try.f5 rfl rfl rfl rfl rfl rfl rfl ⟨rfl, rfl, rfl, rfl, rfl⟩ rfl rfl rfl rfl rfl (by kernel_rfl) Try.func5 (by kernel_rfl)
    (of_decide_eq_true (by kernel_rfl)) (by unfold Func.isWrapper; first | (rw [if_pos (by decide +kernel)]; kernel_rfl) | (rw [if_neg (by decide +kernel)]; exact ⟨rfl, rfl⟩))
    (fun os started H enc _ => lifted os started H enc)
theorem proved : Rows.FnExactBlocksInSaid := over
end Go.Proofs.Ytkamejfgfcbpaaa.fnExactBlocksIn
namespace Go.Proofs.Ytkamejfgfcbpaaa
theorem fnExactBlocksIn_holds : Rows.FnExactBlocksInSaid := fnExactBlocksIn.proved
end Go.Proofs.Ytkamejfgfcbpaaa
#print axioms Go.Proofs.Ytkamejfgfcbpaaa.fnExactBlocksIn_holds
