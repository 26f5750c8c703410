/- Devices: GoodDevice, both. -/
import Derived.Test.YtikafgoibpeagaaLgDevE
namespace Go.Lg.S
open Go Go.Lg
set_option linter.unusedVariables false
set_option linter.unusedSimpArgs false

theorem take_filter_succ {α : Type} (p : α → Bool) (l : List α) (i : Nat) (z : α) (h : l[i]? = some z) : ((l.take (i + 1)).filter p).length = ((l.take i).filter p).length + (if p z then 1 else 0) := by
  have hi : i < l.length := (List.getElem?_eq_some_iff.1 h).1
  rw [List.take_add_one, h]
  simp only [Option.toList_some, List.filter_append, List.length_append, List.filter_cons, List.filter_nil]
  split <;> simp

theorem goodDevice_ok {N n : Nat} (hN : 4294967296 ≤ N) (hn : 2 ≤ n) {σ : LH} {v : Value} {zs : List Zone} (h : RdS σ v zs) (hl : (zs.length : Int) ≤ 2147483647) :
    evFn E N n 27 [.agg #[v]] σ = some ([.bool (goodD zs)], σ) := by
  obtain ⟨n, rfl⟩ : ∃ m, n = m + 1 := ⟨n - 1, by omega⟩
  rw [F27_eq]
  simp only [F27, a1_agg, h.plen, bd_some]
  have key : ∀ (d i M : Nat), i + d = zs.length → d < M → (∀ j z, j < i → zs[j]? = some z → z.good = true) →
      iterV (F27.l0 N (evFn E N n)) M [.int .i64 ((((zs.take i).filter Zone.isOpen).length : Nat) : Int), v, .int .i64 (zs.length : Nat), .int .i64 (i : Nat), v] σ = some ([.bool (goodD zs)], σ) := by
    intro d
    induction d with
    | zero =>
      intro i M hi hM hpre
      obtain ⟨M, rfl⟩ : ∃ m, M = m + 1 := ⟨M - 1, by omega⟩
      have hall : zs.all Zone.good = true := List.all_eq_true.2 fun z hz => by
        obtain ⟨j, hj⟩ := List.getElem?_of_mem hz
        exact hpre j z (by have := (List.getElem?_eq_some_iff.1 hj).1; omega) hj
      rw [iterV_succ]
      simp only [F27.l0, u5_list, bd_some, pBin_lss, asB_bool, Bool.cond_decide]
      rw [if_neg (by omega)]
      simp only [h.plen, bd_some, in_ok (N := N) (n := n) (by omega), c1_some, u1_list, asB_bool, Bool.cond_decide, pBin_leq]
      rw [List.take_of_length_le (by omega)]
      unfold goodD
      rw [hall]
      by_cases h1 : 1 ≤ zs.length ∧ zs.length ≤ 6
      · rw [if_pos (by omega)]
        simp only [h1, and_self, decide_true, Bool.true_and]
        rw [show decide ((((zs.filter Zone.isOpen).length : Nat) : Int) ≤ 3) = decide ((zs.filter Zone.isOpen).length ≤ 3) by rw [Bool.eq_iff_iff]; simp only [decide_eq_true_eq]; omega]
      · rw [if_neg (by omega)]
        simp [h1]
    | succ d ih =>
      intro i M hi hM hpre
      obtain ⟨M, rfl⟩ : ∃ m, M = m + 1 := ⟨M - 1, by omega⟩
      obtain ⟨z, hz⟩ : ∃ z, zs[i]? = some z := ⟨_, List.getElem?_eq_getElem (by omega)⟩
      obtain ⟨q, q1, q2, _⟩ := ldZone h hz
      have bad : z.good = false → goodD zs = false := fun hb => by
        have : zs.all Zone.good = false := by
          rw [← Bool.not_eq_true]
          intro hall
          have := List.all_eq_true.1 hall z (List.mem_of_getElem? hz)
          rw [hb] at this; cases this
        simp [goodD, this]
      have hcnt : ((zs.take i).filter Zone.isOpen).length ≤ zs.length := by
        refine Nat.le_trans (List.length_filter_le _ _) ?_
        rw [List.length_take]; omega
      have next : z.good = true → iterV (F27.l0 N (evFn E N n)) M [.int .i64 ((((zs.take (i + 1)).filter Zone.isOpen).length : Nat) : Int), v, .int .i64 (zs.length : Nat), .int .i64 ((i + 1 : Nat) : Int), v] σ = some ([.bool (goodD zs)], σ) :=
        fun hg => ih (i + 1) M (by omega) (by omega) fun j y hj hy => by
          rcases Nat.eq_or_lt_of_le (Nat.le_of_lt_succ hj) with rfl | hlt
          · rw [hz] at hy; cases hy; exact hg
          · exact hpre j y hlt hy
      rw [take_filter_succ _ _ _ _ hz] at next
      rw [iterV_succ]
      simp only [F27.l0, u5_list, bd_some, pBin_lss, asB_bool, Bool.cond_decide]
      rw [if_pos (by omega)]
      have hv : z.val = .agg #[.string z.data, .int .i64 z.sure, .bool z.full] := rfl
      simp only [q1, q2, bd_some]
      rw [hv]
      simp only [a3_agg, pLs_string, bd_some, pBin_gtr, asB_bool, Bool.cond_decide]
      by_cases h1 : z.data.size ≤ 60
      · rw [if_neg (by omega)]
        simp only [in_ok (N := N) (n := n) (by omega), c1_some, u1_list, pUn_not, bd_some, asB_bool, pBin_eql]
        by_cases h2 : 0 ≤ z.sure ∧ z.sure ≤ (z.data.size : Int)
        · have hop := l2Open_ok (N := N) (n := n) (by omega) (σ := σ) z
          rw [hv] at hop
          simp only [h2, and_self, decide_true, Bool.not_true, cond_false, Bool.cond_decide, hop, c1_some, u1_list, bd_some, asB_bool, pBin_add]
          rw [wrapI (n := ((((zs.take i).filter Zone.isOpen).length : Nat) : Int) + 1) (by constructor <;> omega), wrapI (n := (i : Int) + 1) (by constructor <;> omega)]
          have fin : (z.good = true) → (bif z.isOpen then iterV (F27.l0 N (evFn E N n)) M [.int .i64 (((((zs.take i).filter Zone.isOpen).length : Nat) : Int) + 1), v, .int .i64 (zs.length : Nat), .int .i64 ((i : Int) + 1), v] σ
              else iterV (F27.l0 N (evFn E N n)) M [.int .i64 ((((zs.take i).filter Zone.isOpen).length : Nat) : Int), v, .int .i64 (zs.length : Nat), .int .i64 ((i : Int) + 1), v] σ) = some ([.bool (goodD zs)], σ) := by
            intro hg
            have nx := next hg
            cases ho : z.isOpen with
            | true => rw [ho] at nx; simpa using nx
            | false => rw [ho] at nx; simpa using nx
          by_cases h3 : z.data.size = 60
          · rw [if_pos (by omega)]
            cases hf : z.full with
            | true => exact fin (by simp [Zone.good, h1, h2, hf])
            | false =>
              have : z.good = false := by simp [Zone.good, h1, h2, hf, h3]
              rw [bad this]; rfl
          · rw [if_neg (by omega)]
            exact fin (by simp [Zone.good, h1, h2]; right; omega)
        · have : z.good = false := by simp [Zone.good, h1, h2]
          rw [bad this]
          simp [h2]
      · rw [if_pos (by omega)]
        have : z.good = false := by simp [Zone.good, h1]
        rw [bad this]
  have := key zs.length 0 N (by omega) (by omega) fun j z hj => by omega
  simpa using this

theorem pBS_one {σ : LH} (k : IntKind) (zero m : Int) : pBS σ [.int k zero] 1 1 [(0, .int k m)] = some (.slice (some ⟨σ.next, 0, some 1⟩) 1 (capE 1), σ.push { cells := [.int k m] }) := by
  simp [pBS, zeros, fillL, Value.cells, over]
theorem rd_one {σ : LH} {m : Int} (h : inI m) : RdS (σ.push { cells := [.int .i64 m] }) (.slice (some ⟨σ.next, 0, some 1⟩) 1 (capE 1)) [m] := by
  refine .inr ⟨σ.next, 0, capE 1, { cells := [.int .i64 m] }, rfl, by simp [capE], by simp [LH.push], by simp [show Rep.sz Int = 1 from rfl], fun i x hx => ?_⟩
  cases i with
  | zero => simp at hx; subst hx; exact ⟨rfl, h⟩
  | succ i => simp at hx

theorem openList_ok {N n : Nat} (hN : 4294967296 ≤ N) (hn : 2 ≤ n) {σ : LH} (hm : MD σ) {v : Value} {zs : List Zone} (h : RdS σ v zs) (hl : (zs.length : Int) ≤ 1000000) :
    ∃ u σ', evFn E N n 62 [.agg #[v]] σ = some ([u], σ') ∧ pLen u = some (.int .i64 ((zs.filter Zone.isOpen).length : Nat)) ∧ Ext σ σ' := by
  obtain ⟨n, rfl⟩ : ∃ m, n = m + 1 := ⟨n - 1, by omega⟩
  rw [F62_eq]
  simp only [F62, a1_agg, h.plen, bd_some]
  have key : ∀ (d i M : Nat) (x3 : Value) (σ1 : LH) (acc : List Int) (F : List Nat), i + d = zs.length → d < M → OwS σ1 x3 acc F → FullL x3 → (∀ b ∈ F, σ.next ≤ b) → acc.length = ((zs.take i).filter Zone.isOpen).length → Ext σ σ1 → MD σ1 →
      ∃ u σ', iterV (F62.l0 N (evFn E N n)) M [x3, v, .int .i64 (zs.length : Nat), .int .i64 (i : Nat)] σ1 = some ([u], σ') ∧ pLen u = some (.int .i64 ((zs.filter Zone.isOpen).length : Nat)) ∧ Ext σ σ' := by
    intro d
    induction d with
    | zero =>
      intro i M x3 σ1 acc F hi hM ho hf hF ha he hm1
      obtain ⟨M, rfl⟩ : ∃ m, M = m + 1 := ⟨M - 1, by omega⟩
      rw [iterV_succ]
      simp only [F62.l0, u4_list, bd_some, pBin_lss, asB_bool, Bool.cond_decide]
      rw [if_neg (by omega)]
      rw [List.take_of_length_le (by omega)] at ha
      exact ⟨x3, σ1, rfl, by rw [ho.rd.plen, ha], he⟩
    | succ d ih =>
      intro i M x3 σ1 acc F hi hM ho hf hF ha he hm1
      obtain ⟨M, rfl⟩ : ∃ m, M = m + 1 := ⟨M - 1, by omega⟩
      obtain ⟨z, hz⟩ : ∃ z, zs[i]? = some z := ⟨_, List.getElem?_eq_getElem (by omega)⟩
      obtain ⟨q, q1, q2, _⟩ := ldZone (h.ext hm he) hz
      have hop := isOpen_ok (N := N) (n := n) (by omega) (σ := σ1) z
      have hv : z.val = .agg #[.string z.data, .int .i64 z.sure, .bool z.full] := rfl
      rw [iterV_succ]
      simp only [F62.l0, u4_list, bd_some, pBin_lss, asB_bool, Bool.cond_decide]
      rw [if_pos (by omega)]
      simp only [q1, q2, bd_some]
      rw [hv] at hop ⊢
      simp only [a3_agg, hop, c1_some, u1_list, asB_bool, pBin_add, bd_some]
      rw [wrapI (n := (i : Int) + 1) (by constructor <;> omega)]
      have hcnt := take_filter_succ Zone.isOpen zs i z hz
      have hle : ((zs.take i).filter Zone.isOpen).length ≤ zs.length := by
        refine Nat.le_trans (List.length_filter_le _ _) ?_
        rw [List.length_take]; omega
      cases hoz : z.isOpen with
      | false =>
        rw [hoz] at hcnt
        exact ih (i + 1) M x3 σ1 acc F (by omega) (by omega) ho hf hF (by rw [hcnt, ha]; simp) he hm1
      | true =>
        rw [hoz] at hcnt
        have hpush : Ext σ1 (σ1.push { cells := [.int .i64 (i : Nat)] }) := Ext.push _ _
        obtain ⟨w, σ2, w1, w2, w3, w4, w5⟩ := pAp_grow (α := Int) (z := 1) (bytes := 8) rfl (ho.ext hm1 hpush) hf (rd_one (σ := σ1) (m := (i : Nat)) (by constructor <;> omega)) (by simp) (hpush.md hm1) (by omega)
          (by simp only [List.length_singleton]; omega) (by simp only [List.length_singleton]; omega)
        simp only [cond_true, pBS_one, b2_some, w1]
        exact ih (i + 1) M w σ2 (acc ++ [((i : Nat) : Int)]) _ (by omega) (by omega) w2 w3 (fun b hb => by simp at hb; subst hb; exact Nat.le_trans he.nx hpush.nx) (by rw [List.length_append, hcnt, ha]; simp)
          ⟨Nat.le_trans he.nx (Nat.le_trans hpush.nx w4.nx), fun b hb _ => by
            rw [w4.eq b (Nat.lt_of_lt_of_le hb (Nat.le_trans he.nx hpush.nx)) (fun hh => by have := hF b hh; omega), hpush.eq b (Nat.lt_of_lt_of_le hb he.nx) id, he.eq b hb id], fun h0 => w4.md (hpush.md (he.md h0))⟩ (w4.md (hpush.md hm1))
  have := key zs.length 0 N (.slice none 0 0) σ [] [] (by omega) (by omega) (.inl ⟨rfl, .inl rfl, rfl⟩) (.inl rfl) (fun b hb => by cases hb) (by simp) (Mod.refl _ _) hm
  simpa using this

theorem goodDevice2_ok {N n : Nat} (hN : 4294967296 ≤ N) (hn : 7 ≤ n) {σ : LH} (hm : MD σ) {v : Value} {zs : List Zone} (h : RdS σ v zs) (hl : (zs.length : Int) ≤ 2147483647) :
    ∃ σ', evFn E N n 24 [.agg #[v]] σ = some ([.bool (goodD zs)], σ') ∧ Ext σ σ' := by
  obtain ⟨n, rfl⟩ : ∃ m, n = m + 1 := ⟨n - 1, by omega⟩
  rw [F24_eq]
  simp only [F24, a1_agg, h.plen, bd_some, within_ok (N := N) (n := n) (by omega), c1_some, u1_list, asB_bool, Bool.cond_decide]
  by_cases h1 : 1 ≤ zs.length ∧ zs.length ≤ 6
  · rw [if_pos (by omega)]
    obtain ⟨σ1, a1, a2⟩ := areAll_ok (N := N) (n := n) hN (by omega) hm h (by omega) (f := 61) Zone.good (fun σ' z => isGood_ok (by omega) z)
    obtain ⟨u, σ2, b1, b2, b3⟩ := openList_ok (N := N) (n := n) hN (by omega) (a2.md hm) (h.ext hm a2) (by omega)
    simp only [a1, c1_some, u1_list, asB_bool]
    cases hall : zs.all Zone.good with
    | false => exact ⟨σ1, by simp [goodD, hall], a2⟩
    | true =>
      simp only [cond_true, b1, c1_some, u1_list, b2, bd_some, pBin_leq]
      refine ⟨σ2, ?_, a2.trans b3⟩
      simp only [goodD, hall, h1, and_self, decide_true, Bool.true_and]
      rw [show decide ((((zs.filter Zone.isOpen).length : Nat) : Int) ≤ 3) = decide ((zs.filter Zone.isOpen).length ≤ 3) by rw [Bool.eq_iff_iff]; simp only [decide_eq_true_eq]; omega]
  · rw [if_neg (by omega)]
    exact ⟨σ, by simp [goodD, h1], Mod.refl _ _⟩
end Go.Lg.S
