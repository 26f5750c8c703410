/- Devices: copies, and whether two are one. -/
import Derived.Test.YtikafgoibpeagaaLgDevA
namespace Go.Lg.S
open Go Go.Lg
set_option linter.unusedVariables false
set_option linter.unusedSimpArgs false

/-- a slice made of so many -/
theorem pMS_new {α : Type} [Rep α] {σ : LH} {z bytes : Nat} {zero : List Value} (n : Nat) (hz : Rep.sz α = z) (hz0 : Rep.zero α = zero) (hl : zero.length = z) (hs : n * bytes ≤ 140737488355328) (hn : (n : Int) ≤ 9223372036854775807) :
    ∃ v, pMS σ zero z bytes (.int .i64 (n : Nat)) (.int .i64 (n : Nat)) = some (v, σ.push { cells := zeros zero n }) ∧ OwS (σ.push { cells := zeros zero n }) v (List.replicate n (Rep.dflt : α)) (if n = 0 then [] else [σ.next]) ∧ ∃ a, v = .slice (some a) n (capE n) := by
  refine ⟨.slice (some ⟨σ.next, 0, some z⟩) n (capE n), ?_, ?_, _, rfl⟩
  · show (if (0 : Int) ≤ (n : Int) ∧ (n : Int) ≤ (n : Int) ∧ (n : Int) * (bytes : Int) ≤ 140737488355328 ∧ (n : Int) ≤ 9223372036854775807 ∧ zero.length = z then _ else none) = _
    rw [if_pos ⟨by omega, Int.le_refl _, by have := hs; omega, hn, hl⟩]
    rfl
  rcases Nat.eq_zero_or_pos n with h0 | h0
  · subst h0; exact .inl ⟨rfl, .inr ⟨_, _, rfl⟩, rfl⟩
  · have hlen : ∀ k, (zeros zero k).length = k * z := by
      intro k
      induction k with
      | zero => simp [zeros]
      | succ k ih => rw [zeros, List.length_append, ih, hl, Nat.succ_mul]; omega
    have hcell : ∀ k i, i < k → cellsAt (zeros zero k) z i = zero := by
      intro k
      induction k with
      | zero => intro i hi; omega
      | succ k ih =>
        intro i hi
        unfold cellsAt
        cases i with
        | zero => simp only [zeros, Nat.zero_mul, List.drop_zero]; rw [List.take_append_of_le_length (by omega), List.take_of_length_le (by omega)]
        | succ i =>
          have := ih i (by omega)
          unfold cellsAt at this
          have h2 : (zero ++ zeros zero k).drop z = zeros zero k := by rw [← hl]; exact List.drop_left
          have h3 : (zero ++ zeros zero k).drop ((i + 1) * z) = (zeros zero k).drop (i * z) := by
            rw [Nat.succ_mul, Nat.add_comm, ← List.drop_drop, h2]
          rw [zeros, h3]
          exact this
    subst hz
    refine .inr ⟨σ.next, 0, capE n, { cells := zeros zero n }, fun _ => [], by rw [List.length_replicate], by rw [List.length_replicate]; simp [capE]; omega, by simp [LH.push], rfl, by rw [List.length_replicate]; simp [hlen], ?_, fun i x hx => ?_⟩
    · rw [if_neg (by omega)]; simp
    · have hi : i < n := by have := (List.getElem?_eq_some_iff.1 hx).1; simpa using this
      rw [List.getElem?_replicate, if_pos hi] at hx; cases hx
      simp only [List.drop_zero]
      rw [hcell n i hi, ← hz0]; exact Rep.dflt_own _

theorem toZone_ok {N n : Nat} (hn : 1 ≤ n) {σ : LH} (z : Zone) : evFn E N n 69 [z.val] σ = some ([z.val], σ) := by
  obtain ⟨n, rfl⟩ : ∃ m, n = m + 1 := ⟨n - 1, by omega⟩
  rw [F69_eq]
  simp only [F69, Zone.val, a3_agg, sc1_string, sc1_int, sc1_bool]

theorem toZoneS_ok {N n : Nat} (hN : 4294967296 ≤ N) (hn : 2 ≤ n) {σ : LH} (hm : MD σ) {v : Value} {zs : List Zone} (h : RdS σ v zs) (hl : (zs.length : Int) ≤ 1048576) :
    ∃ u σ' F, evFn E N n 45 [v] σ = some ([u], σ') ∧ OwS σ' u zs F ∧ F.Nodup ∧ (∀ b ∈ F, σ.next ≤ b) ∧ Ext σ σ' := by
  obtain ⟨n, rfl⟩ : ∃ m, n = m + 1 := ⟨n - 1, by omega⟩
  rw [F45_eq]
  obtain ⟨u, hu, ho, a, ha⟩ := pMS_new (α := Zone) (σ := σ) (z := 3) (bytes := 32) (zero := [.string ⟨#[]⟩, .int .i64 0, .bool false]) zs.length rfl rfl rfl (by omega) (by omega)
  simp only [F45, h.plen, bd_some, hu, b2_some]
  generalize hF : (if zs.length = 0 then [] else [σ.next]) = F at ho
  have hnd : F.Nodup := by subst hF; split <;> simp
  have hFn : ∀ b ∈ F, σ.next ≤ b := by subst hF; intro b hb; split at hb <;> simp at hb; omega
  have key : ∀ (d i : Nat) (M : Nat) (σ1 : LH) (ys : List Zone), i + d = zs.length → d < M → OwS σ1 u ys F → ys.length = zs.length → (∀ j, j < i → ys[j]? = zs[j]?) → Ext σ σ1 →
      ∃ σ', iterV (F45.l0 N (evFn E N n)) M [v, u, .int .i64 (i : Nat)] σ1 = some ([u], σ') ∧ OwS σ' u zs F ∧ Ext σ σ' := by
    intro d
    induction d with
    | zero =>
      intro i M σ1 ys hi hM ho1 hy hpre he
      obtain ⟨M, rfl⟩ : ∃ m, M = m + 1 := ⟨M - 1, by omega⟩
      have hv := Rep.keep (σ' := σ1) (show Rep.rd σ [v] zs from ⟨v, rfl, h, by omega⟩) hm (fun b hb => he.eq b hb id)
      obtain ⟨_, hv1, hv2, _⟩ := hv
      cases hv1
      rw [iterV_succ]
      simp only [F45.l0, u3_list, hv2.plen, bd_some, pBin_lss, asB_bool, Bool.cond_decide]
      rw [if_neg (by omega)]
      have : ys = zs := List.ext_getElem? fun j => by
        rcases Nat.lt_or_ge j i with h1 | h1
        · exact hpre j h1
        · rw [List.getElem?_eq_none (by omega), List.getElem?_eq_none (by omega)]
      subst this
      exact ⟨σ1, rfl, ho1, he⟩
    | succ d ih =>
      intro i M σ1 ys hi hM ho1 hy hpre he
      obtain ⟨M, rfl⟩ : ∃ m, M = m + 1 := ⟨M - 1, by omega⟩
      have hv := Rep.keep (σ' := σ1) (show Rep.rd σ [v] zs from ⟨v, rfl, h, by omega⟩) hm (fun b hb => he.eq b hb id)
      obtain ⟨_, hv1, hv2, _⟩ := hv
      cases hv1
      obtain ⟨z, hz⟩ : ∃ z, zs[i]? = some z := ⟨_, List.getElem?_eq_getElem (by omega)⟩
      obtain ⟨p, hp1, hp2, _, _, _, hg⟩ := ldZone hv2 hz
      obtain ⟨y, hyy⟩ : ∃ y, ys[i]? = some y := ⟨_, List.getElem?_eq_getElem (by omega)⟩
      obtain ⟨q, c, Fi, q1, q2, q3, q4⟩ := ho1.st hnd hyy
      obtain ⟨q', σ2, w1, w2, w3, w4, _⟩ := q4 0 z.val z (by simp [Zone.val, Value.cells, Zone.sz]) (fun σ' _ _ => by
        obtain ⟨⟨rfl, _⟩, rfl⟩ := q3
        exact ⟨⟨by simp [over, Zone.val, Value.cells, Enc.enc], hg⟩, rfl⟩)
      obtain ⟨b, o, blk, rfl, _⟩ := q2
      simp only [pFA, Addr.add_none, Nat.add_zero, Option.some.injEq] at w1
      subst w1
      rw [iterV_succ]
      simp only [F45.l0, u3_list, hv2.plen, bd_some, pBin_lss, asB_bool, Bool.cond_decide]
      rw [if_pos (by omega)]
      have q1' : pIA 3 u (.int .i64 (i : Nat)) = some (.pointer (some ⟨b, o, none⟩)) := q1
      have w2' : pSt σ1 3 (.pointer (some ⟨b, o, none⟩)) z.val = some σ2 := w2
      simp only [hp1, bd_some, hp2, toZone_ok (N := N) (n := n) (by omega) z, c1_some, u1_list, q1', w2', pBin_add]
      rw [wrapI (n := (i : Int) + 1) (by constructor <;> omega)]
      obtain ⟨σ', g1, g2, g3⟩ := ih (i + 1) M σ2 (ys.set i z) (by omega) (by omega) w3 (by rw [List.length_set]; exact hy) (fun j hj => by
        rcases Nat.eq_or_lt_of_le (Nat.le_of_lt_succ hj) with rfl | hlt
        · rw [List.getElem?_set_self (by omega), hz]
        · rw [List.getElem?_set_ne (by omega)]; exact hpre j hlt) ⟨Nat.le_trans he.nx w4.nx, fun b hb hh => by
          rw [w4.eq b (Nat.lt_of_lt_of_le hb he.nx) (fun hm => by have := hFn b hm; omega)]; exact he.eq b hb hh, fun hm => w4.md (he.md hm)⟩
      exact ⟨σ', by simpa using g1, g2, g3⟩
  obtain ⟨σ', g1, g2, g3⟩ := key zs.length 0 N _ _ (by omega) (by omega) ho (by simp) (fun j hj => by omega) (Ext.push σ _)
  exact ⟨u, σ', F, by simpa using g1, g2, hnd, hFn, g3⟩

theorem eqZone_ok {N n : Nat} (hn : 1 ≤ n) {σ : LH} (x y : Zone) : evFn E N n 71 [x.val, y.val] σ = some ([.bool (decide (x = y))], σ) := by
  obtain ⟨n, rfl⟩ : ∃ m, n = m + 1 := ⟨n - 1, by omega⟩
  rw [F71_eq]
  obtain ⟨a, b, c⟩ := x
  obtain ⟨a', b', c'⟩ := y
  simp only [F71, Zone.val, a3_agg, pBin_sneq, pBin_neq, pBin_bne, bd_some, asB_bool, Bool.cond_decide]
  by_cases h1 : a = a'
  · subst h1
    by_cases h2 : b = b'
    · subst h2
      cases c <;> cases c' <;> simp
    · simp [h2]
  · simp [h1]
end Go.Lg.S
