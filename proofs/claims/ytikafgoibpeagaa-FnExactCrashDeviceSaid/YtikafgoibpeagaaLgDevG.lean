/- Devices: FlushDevice, both. -/
import Derived.Test.YtikafgoibpeagaaLgDevF
namespace Go.Lg.S
open Go Go.Lg
set_option linter.unusedVariables false
set_option linter.unusedSimpArgs false

theorem pBS_none {σ : LH} (zero : List Value) (z : Nat) (h : zero.length = z) : pBS σ zero z 0 [] = some (.slice (some ⟨σ.next, 0, some z⟩) 0 (capE 0), σ.push { cells := [] }) := by
  simp [pBS, zeros, fillL, h]

/-- the reference's copy -/
theorem own1_ok {N n : Nat} (hn : 1 ≤ n) {σ : LH} (hm : MD σ) {v : Value} {zs : List Zone} (h : RdS σ v zs) (hl : (zs.length : Int) ≤ 2147483647) :
    ∃ u σ' F, evFn E N n 44 [.agg #[v]] σ = some ([.agg #[u]], σ') ∧ OwS σ' u zs F ∧ F.Nodup ∧ (∀ b ∈ F, σ.next ≤ b) ∧ Ext σ σ' := by
  obtain ⟨n, rfl⟩ : ∃ m, n = m + 1 := ⟨n - 1, by omega⟩
  rw [F44_eq]
  simp only [F44, a1_agg]
  rw [pBS_none _ 3 rfl]
  have he : Ext σ (σ.push { cells := [] }) := Ext.push _ _
  obtain ⟨u, σ', F, h1, h2, h3, h4, h5⟩ := pAp_copy (α := Zone) (s := .slice (some ⟨σ.next, 0, some 3⟩) 0 (capE 0)) (z := 3) (bytes := 32) rfl (.inr ⟨_, _, rfl⟩) (.inr ⟨_, _, rfl⟩) (h.ext hm he) (by omega) (by omega) (by omega)
  refine ⟨u, σ', F, ?_, h2, h3, fun b hb => Nat.le_trans he.nx (h4 b hb), he.trans h5⟩
  simp only [b2_some, h1]
  have hsc : u.cells = #[u] := by rcases h2 with ⟨_, rfl | ⟨_, _, rfl⟩, _⟩ | ⟨_, _, _, _, _, rfl, _⟩ <;> rfl
  simp [pBuild, fillL, hsc, over]

theorem pBin_nil {α : Type} [Rep α] {σ : LH} {v : Value} {xs : List α} (h : RdS σ v xs) (t : Nat) : ∃ b, pBin (.slice t) .eql v (.slice none 0 0) = some (.bool b) ∧ (b = true → v = .slice none 0 0) := by
  rcases h with ⟨rfl, rfl | ⟨a, c, rfl⟩⟩ | ⟨b, o, c, blk, rfl, _⟩
  · exact ⟨true, rfl, fun _ => rfl⟩
  · exact ⟨false, rfl, nofun⟩
  · exact ⟨false, rfl, nofun⟩

/-- the program's copy -/
theorem own2_ok {N n : Nat} (hn : 2 ≤ n) {σ : LH} (hm : MD σ) {v : Value} {zs : List Zone} (h : RdS σ v zs) (hl : (zs.length : Int) ≤ 2147483647) :
    ∃ u σ' F, evFn E N n 46 [.agg #[v]] σ = some ([.agg #[u]], σ') ∧ OwS σ' u zs F ∧ F.Nodup ∧ (∀ b ∈ F, σ.next ≤ b) ∧ Ext σ σ' := by
  obtain ⟨n, rfl⟩ : ∃ m, n = m + 2 := ⟨n - 2, by omega⟩
  rw [F46_eq]
  simp only [F46, a1_agg]
  have hb : ∃ u σ' F, evFn E N (n + 1) 70 [v] σ = some ([u], σ') ∧ OwS σ' u zs F ∧ F.Nodup ∧ (∀ b ∈ F, σ.next ≤ b) ∧ Ext σ σ' := by
    rw [F70_eq]
    obtain ⟨b, hb1, hb2⟩ := pBin_nil h 48
    simp only [F70, hb1, bd_some, asB_bool]
    cases b with
    | true =>
      have hv := hb2 rfl
      have : zs = [] := by
        have := h.plen; rw [hv] at this
        simp only [pLen, Option.some.injEq, Value.int.injEq, true_and] at this
        exact List.eq_nil_of_length_eq_zero (by omega)
      subst this
      exact ⟨_, σ, [], rfl, .inl ⟨rfl, .inl rfl, rfl⟩, List.nodup_nil, fun b hb => by (cases hb), Mod.refl _ _⟩
    | false =>
      rw [pBS_none _ 3 rfl]
      have he : Ext σ (σ.push { cells := [] }) := Ext.push _ _
      obtain ⟨u, σ', F, h1, h2, h3, h4, h5⟩ := pAp_copy (α := Zone) (s := .slice (some ⟨σ.next, 0, some 3⟩) 0 (capE 0)) (z := 3) (bytes := 32) rfl (.inr ⟨_, _, rfl⟩) (.inr ⟨_, _, rfl⟩) (h.ext hm he) (by omega) (by omega) (by omega)
      exact ⟨u, σ', F, by simp only [cond_false, b2_some, h1], h2, h3, fun b hb => Nat.le_trans he.nx (h4 b hb), he.trans h5⟩
  obtain ⟨u, σ', F, h1, h2, h3⟩ := hb
  refine ⟨u, σ', F, ?_, h2, h3⟩
  have hsc : u.cells = #[u] := by rcases h2 with ⟨_, rfl | ⟨_, _, rfl⟩, _⟩ | ⟨_, _, _, _, _, rfl, _⟩ <;> rfl
  simp only [h1, c1_some, u1_list]
  simp [pBuild, fillL, hsc, over]

def flushZ (z : Zone) : Zone := { z with sure := (z.data.size : Nat) }
def flushD (zs : List Zone) : List Zone := zs.map flushZ

theorem flush1_ok {N n : Nat} (hN : 4294967296 ≤ N) (hn : 3 ≤ n) {σ : LH} (hm : MD σ) {v : Value} {zs : List Zone} (h : RdS σ v zs) (hl : (zs.length : Int) ≤ 2147483647) :
    ∃ u σ' F, evFn E N n 9 [.agg #[v]] σ = some ([.agg #[u], .bool (goodD zs)], σ') ∧ OwS σ' u (if goodD zs then flushD zs else []) F ∧ F.Nodup ∧ (∀ b ∈ F, σ.next ≤ b) ∧ Ext σ σ' := by
  obtain ⟨n, rfl⟩ : ∃ m, n = m + 1 := ⟨n - 1, by omega⟩
  rw [F9_eq]
  simp only [F9, a1_agg, goodDevice_ok (N := N) (n := n) hN (by omega) h hl, c1_some, u1_list, pUn_not, bd_some, asB_bool]
  cases hg : goodD zs with
  | false =>
    simp only [Bool.not_false, cond_true]
    exact ⟨.slice none 0 0, σ, [], by simp [pBuild, fillL], .inl ⟨by simp, .inl rfl, rfl⟩, List.nodup_nil, fun b hb => by (cases hb), Mod.refl _ _⟩
  | true =>
    simp only [Bool.not_true, cond_false, if_true]
    obtain ⟨u, σ0, F, o1, o2, o3, o4, o5⟩ := own1_ok (N := N) (n := n) (by omega) hm h hl
    simp only [o1, c1_some, u1_list, a1_agg, o2.rd.plen, bd_some]
    have key : ∀ (d i M : Nat) (σ1 : LH) (ys : List Zone), i + d = zs.length → d < M → OwS σ1 u ys F → ys.length = zs.length → (∀ j z, j < i → zs[j]? = some z → ys[j]? = some (flushZ z)) → (∀ j, i ≤ j → ys[j]? = zs[j]?) → Ext σ σ1 →
        ∃ σ', iterV (F9.l0 N (evFn E N n)) M [u, .int .i64 (zs.length : Nat), .int .i64 (i : Nat), .slice none 0 0, u] σ1 = some ([.agg #[u], .bool true], σ') ∧ OwS σ' u (flushD zs) F ∧ Ext σ σ' := by
      intro d
      induction d with
      | zero =>
        intro i M σ1 ys hi hM ho hy h1 h2 he
        obtain ⟨M, rfl⟩ : ∃ m, M = m + 1 := ⟨M - 1, by omega⟩
        rw [iterV_succ]
        simp only [F9.l0, u5_list, bd_some, pBin_lss, asB_bool, Bool.cond_decide]
        rw [if_neg (by omega)]
        have : ys = flushD zs := List.ext_getElem? fun j => by
          unfold flushD
          rw [List.getElem?_map]
          cases hz : zs[j]? with
          | none => rw [List.getElem?_eq_none (by have := List.getElem?_eq_none_iff.1 hz; omega)]; rfl
          | some z => rw [h1 j z (by have := (List.getElem?_eq_some_iff.1 hz).1; omega) hz]; rfl
        subst this
        exact ⟨σ1, rfl, ho, he⟩
      | succ d ih =>
        intro i M σ1 ys hi hM ho hy h1 h2 he
        obtain ⟨M, rfl⟩ : ∃ m, M = m + 1 := ⟨M - 1, by omega⟩
        obtain ⟨z, hz⟩ : ∃ z, zs[i]? = some z := ⟨_, List.getElem?_eq_getElem (by omega)⟩
        have hyz : ys[i]? = some z := by rw [h2 i (Nat.le_refl _)]; exact hz
        obtain ⟨q, q1, q2, _, _, _, hg2⟩ := ldZone ho.rd hyz
        obtain ⟨p, p2, σ2, w1, w2, w3, w4, w5⟩ := (stZone ho o3 hyz).2.1 ((z.data.size : Nat) : Int) (by have := hg2.1; constructor <;> omega)
        rw [q1] at w1; cases w1
        have hv : z.val = .agg #[.string z.data, .int .i64 z.sure, .bool z.full] := rfl
        rw [iterV_succ]
        simp only [F9.l0, u5_list, bd_some, pBin_lss, asB_bool, Bool.cond_decide]
        rw [if_pos (by omega)]
        simp only [q1, q2, bd_some]
        rw [hv]
        simp only [a3_agg, pLs_string, bd_some, w2, w3, pBin_add]
        rw [wrapI (n := (i : Int) + 1) (by constructor <;> omega)]
        obtain ⟨σ', g1, g2, g3⟩ := ih (i + 1) M σ2 _ (by omega) (by omega) w4 (by rw [List.length_set]; exact hy) (fun j y hj hyj => by
          rcases Nat.eq_or_lt_of_le (Nat.le_of_lt_succ hj) with rfl | hlt
          · rw [hz] at hyj; cases hyj; rw [List.getElem?_set_self (by omega)]; rfl
          · rw [List.getElem?_set_ne (by omega)]; exact h1 j y hlt hyj) (fun j hj => by rw [List.getElem?_set_ne (by omega)]; exact h2 j (by omega))
          ⟨Nat.le_trans he.nx w5.nx, fun b hb hh => by rw [w5.eq b (Nat.lt_of_lt_of_le hb he.nx) (fun hm => by have := o4 b hm; omega)]; exact he.eq b hb hh, fun hm => w5.md (he.md hm)⟩
        exact ⟨σ', by simpa using g1, g2, g3⟩
    obtain ⟨σ', g1, g2, g3⟩ := key zs.length 0 N σ0 zs (by omega) (by omega) o2 rfl (fun j z hj => by omega) (fun j _ => rfl) o5
    exact ⟨u, σ', F, by simpa using g1, g2, o3, o4, g3⟩

theorem flush2_ok {N n : Nat} (hN : 4294967296 ≤ N) (hn : 8 ≤ n) {σ : LH} (hm : MD σ) {v : Value} {zs : List Zone} (h : RdS σ v zs) (hl : (zs.length : Int) ≤ 2147483647) :
    ∃ u σ' F, evFn E N n 11 [.agg #[v]] σ = some ([.agg #[u], .bool (goodD zs)], σ') ∧ OwS σ' u (if goodD zs then flushD zs else []) F ∧ F.Nodup ∧ (∀ b ∈ F, σ.next ≤ b) ∧ Ext σ σ' := by
  obtain ⟨n, rfl⟩ : ∃ m, n = m + 1 := ⟨n - 1, by omega⟩
  rw [F11_eq]
  obtain ⟨σg, e1, e2⟩ := goodDevice2_ok (N := N) (n := n) hN (by omega) hm h hl
  simp only [F11, a1_agg, e1, c1_some, u1_list, pUn_not, bd_some, asB_bool]
  cases hg : goodD zs with
  | false =>
    simp only [Bool.not_false, cond_true]
    exact ⟨.slice none 0 0, σg, [], by simp [pBuild, fillL], .inl ⟨by simp, .inl rfl, rfl⟩, List.nodup_nil, fun b hb => by (cases hb), e2⟩
  | true =>
    simp only [Bool.not_true, cond_false, if_true]
    obtain ⟨u, σ0, F, o1, o2, o3, o4, o5⟩ := own2_ok (N := N) (n := n) (by omega) (e2.md hm) (h.ext hm e2) hl
    have o4' : ∀ b ∈ F, σ.next ≤ b := fun b hb => Nat.le_trans e2.nx (o4 b hb)
    simp only [o1, c1_some, u1_list, a1_agg, o2.rd.plen, bd_some]
    have key : ∀ (d i M : Nat) (σ1 : LH) (ys : List Zone), i + d = zs.length → d < M → OwS σ1 u ys F → ys.length = zs.length → (∀ j z, j < i → zs[j]? = some z → ys[j]? = some (flushZ z)) → (∀ j, i ≤ j → ys[j]? = zs[j]?) → Ext σ σ1 →
        ∃ σ', iterV (F11.l0 N (evFn E N n)) M [.int .i64 (zs.length : Nat), .int .i64 (i : Nat), .slice none 0 0, u] σ1 = some ([.agg #[u], .bool true], σ') ∧ OwS σ' u (flushD zs) F ∧ Ext σ σ' := by
      intro d
      induction d with
      | zero =>
        intro i M σ1 ys hi hM ho hy h1 h2 he
        obtain ⟨M, rfl⟩ : ∃ m, M = m + 1 := ⟨M - 1, by omega⟩
        rw [iterV_succ]
        simp only [F11.l0, u4_list, bd_some, pBin_lss, asB_bool, Bool.cond_decide]
        rw [if_neg (by omega)]
        have : ys = flushD zs := List.ext_getElem? fun j => by
          unfold flushD
          rw [List.getElem?_map]
          cases hz : zs[j]? with
          | none => rw [List.getElem?_eq_none (by have := List.getElem?_eq_none_iff.1 hz; omega)]; rfl
          | some z => rw [h1 j z (by have := (List.getElem?_eq_some_iff.1 hz).1; omega) hz]; rfl
        subst this
        exact ⟨σ1, rfl, ho, he⟩
      | succ d ih =>
        intro i M σ1 ys hi hM ho hy h1 h2 he
        obtain ⟨M, rfl⟩ : ∃ m, M = m + 1 := ⟨M - 1, by omega⟩
        obtain ⟨z, hz⟩ : ∃ z, zs[i]? = some z := ⟨_, List.getElem?_eq_getElem (by omega)⟩
        have hyz : ys[i]? = some z := by rw [h2 i (Nat.le_refl _)]; exact hz
        obtain ⟨q, q1, _, ⟨q0, f1, f2⟩, _, _, hg2⟩ := ldZone ho.rd hyz
        obtain ⟨p, p2, σ2, w1, w2, w3, w4, w5⟩ := (stZone ho o3 hyz).2.1 ((z.data.size : Nat) : Int) (by have := hg2.1; constructor <;> omega)
        rw [q1] at w1; cases w1
        rw [iterV_succ]
        simp only [F11.l0, u4_list, bd_some, pBin_lss, asB_bool, Bool.cond_decide]
        rw [if_pos (by omega)]
        simp only [q1, f1, f2, pLs_string, bd_some, w2, w3, pBin_add]
        rw [wrapI (n := (i : Int) + 1) (by constructor <;> omega)]
        obtain ⟨σ', g1, g2, g3⟩ := ih (i + 1) M σ2 _ (by omega) (by omega) w4 (by rw [List.length_set]; exact hy) (fun j y hj hyj => by
          rcases Nat.eq_or_lt_of_le (Nat.le_of_lt_succ hj) with rfl | hlt
          · rw [hz] at hyj; cases hyj; rw [List.getElem?_set_self (by omega)]; rfl
          · rw [List.getElem?_set_ne (by omega)]; exact h1 j y hlt hyj) (fun j hj => by rw [List.getElem?_set_ne (by omega)]; exact h2 j (by omega))
          ⟨Nat.le_trans he.nx w5.nx, fun b hb hh => by rw [w5.eq b (Nat.lt_of_lt_of_le hb he.nx) (fun hm => by have := o4' b hm; omega)]; exact he.eq b hb hh, fun hm => w5.md (he.md hm)⟩
        exact ⟨σ', by simpa using g1, g2, g3⟩
    obtain ⟨σ', g1, g2, g3⟩ := key zs.length 0 N σ0 zs (by omega) (by omega) o2 rfl (fun j z hj => by omega) (fun j _ => rfl) (e2.trans o5)
    exact ⟨u, σ', F, by simpa using g1, g2, o3, o4', g3⟩
end Go.Lg.S
