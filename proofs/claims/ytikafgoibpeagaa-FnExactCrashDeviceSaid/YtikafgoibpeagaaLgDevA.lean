/- Devices: values, and what the laws' helpers do with them. -/
import Derived.Test.YtikafgoibpeagaaLgS0
import Derived.Test.YtikafgoibpeagaaLgTs
namespace Go.Lg.S
open Go Go.Lg
set_option linter.unusedVariables false
set_option linter.unusedSimpArgs false

structure Zone where
  data : ByteArray
  sure : Int
  full : Bool
  deriving DecidableEq

instance : Enc Zone where
  enc z := [.string z.data, .int .i64 z.sure, .bool z.full]
  good z := z.data.size ≤ 9223372036854775807 ∧ inI z.sure
  esz := 3
  eagg := true
  epos := by decide
  esc h := by cases h
  elen _ := rfl
  eones _ := fun v hv => by simp at hv; rcases hv with rfl | rfl | rfl <;> rfl
  edflt := ⟨⟨#[]⟩, 0, false⟩
  egood := ⟨by decide, by constructor <;> decide⟩

theorem Zone.sz : Rep.sz Zone = 3 := rfl
def Zone.val (z : Zone) : Value := .agg #[.string z.data, .int .i64 z.sure, .bool z.full]

/-- an element of a slice of zones, whole -/
theorem ldZone {σ : LH} {v : Value} {zs : List Zone} (h : RdS σ v zs) {i : Nat} {z : Zone} (hz : zs[i]? = some z) : ∃ p, pIA 3 v (.int .i64 (i : Nat)) = some p ∧ pLd σ 3 true p = some z.val ∧
    (∃ q, pFA p 0 = some q ∧ pLd σ 1 false q = some (.string z.data)) ∧ (∃ q, pFA p 1 = some q ∧ pLd σ 1 false q = some (.int .i64 z.sure)) ∧ (∃ q, pFA p 2 = some q ∧ pLd σ 1 false q = some (.bool z.full)) ∧ Enc.good z := by
  obtain ⟨p, c, h1, h2, h3, h4⟩ := h.at hz
  subst h3
  refine ⟨p, h1, h2.ld, ?_, ?_, ?_, h4⟩
  · obtain ⟨q, g1, g2⟩ := At.fa (c1 := []) (c2 := [.string z.data]) (c3 := [.int .i64 z.sure, .bool z.full]) h2
    exact ⟨q, g1, g2.ld1⟩
  · obtain ⟨q, g1, g2⟩ := At.fa (c1 := [.string z.data]) (c2 := [.int .i64 z.sure]) (c3 := [.bool z.full]) h2
    exact ⟨q, g1, g2.ld1⟩
  · obtain ⟨q, g1, g2⟩ := At.fa (c1 := [.string z.data, .int .i64 z.sure]) (c2 := [.bool z.full]) (c3 := []) h2
    exact ⟨q, g1, g2.ld1⟩

theorem iterV_succ (F : (List Value → LH → Option (List Value × LH)) → List Value → LH → Option (List Value × LH)) (n : Nat) (xs : List Value) (σ : LH) : iterV F (n + 1) xs σ = F (iterV F n) xs σ := rfl

theorem szZone_ok {N n : Nat} (hn : 1 ≤ n) {σ : LH} (z : Zone) (hz : Enc.good z) {left : Int} (h0 : 0 ≤ left) (h1 : left ≤ 1048576) :
    ∃ r, evFn E N n 68 [z.val, .int .i64 left] σ = some ([.int .i64 r], σ) ∧ r ≤ left ∧ (0 ≤ r → r = left - z.data.size) := by
  obtain ⟨n, rfl⟩ : ∃ m, n = m + 1 := ⟨n - 1, by omega⟩
  rw [F68_eq]
  have hs := hz.1
  simp only [F68, Zone.val, a3_agg, pLs_string, bd_some, pBin_sub, pBin_lss, asB_bool, Bool.cond_decide]
  rw [wrapI (n := left - (z.data.size : Nat)) (by constructor <;> omega)]
  split
  · exact ⟨_, rfl, by omega, by omega⟩
  · exact ⟨_, rfl, by omega, fun _ => rfl⟩

theorem szZoneS_ok {N n : Nat} (hN : 4294967296 ≤ N) (hn : 2 ≤ n) {σ : LH} {v : Value} {zs : List Zone} (h : RdS σ v zs) (hl : (zs.length : Int) ≤ 9223372036854775807) {left : Int} (h0 : 0 ≤ left) (h1 : left ≤ 1048576) :
    ∃ r, evFn E N n 43 [v, .int .i64 left] σ = some ([.int .i64 r], σ) ∧ r ≤ left ∧ (0 ≤ r → (zs.length : Int) ≤ left ∧ ∀ z ∈ zs, (z.data.size : Int) ≤ left) := by
  obtain ⟨n, rfl⟩ : ∃ m, n = m + 1 := ⟨n - 1, by omega⟩
  rw [F43_eq]
  simp only [F43, h.plen, bd_some, pBin_sub, pBin_lss, asB_bool, Bool.cond_decide]
  rw [wrapI (n := left - (zs.length : Nat)) (by constructor <;> omega)]
  split
  · exact ⟨_, rfl, by omega, by omega⟩
  · rename_i hneg
    have key : ∀ (d i : Nat) (M : Nat) (l : Int), i + d = zs.length → d < M → 0 ≤ l → l ≤ left →
        ∃ r, iterV (F43.l0 N (evFn E N n)) M [v, .int .i64 l, .int .i64 (i : Nat)] σ = some ([.int .i64 r], σ) ∧ r ≤ l ∧ (0 ≤ r → ∀ j, i ≤ j → ∀ z, zs[j]? = some z → (z.data.size : Int) ≤ l) := by
      intro d
      induction d with
      | zero =>
        intro i M l hi hM hl0 hl1
        obtain ⟨M, rfl⟩ : ∃ m, M = m + 1 := ⟨M - 1, by omega⟩
        rw [iterV_succ]
        simp only [F43.l0, u3_list, h.plen, bd_some, pBin_lss, asB_bool, Bool.cond_decide]
        rw [if_neg (by omega)]
        exact ⟨l, rfl, Int.le_refl _, fun _ j hj z hz => by have := (List.getElem?_eq_some_iff.1 hz).1; omega⟩
      | succ d ih =>
        intro i M l hi hM hl0 hl1
        obtain ⟨M, rfl⟩ : ∃ m, M = m + 1 := ⟨M - 1, by omega⟩
        obtain ⟨z, hz⟩ : ∃ z, zs[i]? = some z := ⟨_, List.getElem?_eq_getElem (by omega)⟩
        obtain ⟨p, hp1, hp2, _, _, _, hg⟩ := ldZone h hz
        obtain ⟨r, hr1, hr2, hr3⟩ := szZone_ok (N := N) (n := n) (by omega) (σ := σ) z hg (left := l) hl0 (by omega)
        rw [iterV_succ]
        simp only [F43.l0, u3_list, h.plen, bd_some, pBin_lss, asB_bool, Bool.cond_decide]
        rw [if_pos (by omega)]
        simp only [hp1, bd_some, hp2, hr1, c1_some, u1_list, pBin_lss, asB_bool, Bool.cond_decide, pBin_add]
        split
        · exact ⟨_, rfl, by omega, by omega⟩
        · rename_i hr
          rw [wrapI (n := (i : Int) + 1) (by constructor <;> omega)]
          obtain ⟨r2, g1, g2, g3⟩ := ih (i + 1) M r (by omega) (by omega) (by omega) (by omega)
          refine ⟨r2, by simpa using g1, by omega, fun h2 j hj y hy => ?_⟩
          rcases Nat.eq_or_lt_of_le hj with rfl | hlt
          · rw [hz] at hy; cases hy
            have := hr3 (by omega); omega
          · have := g3 h2 j hlt y hy; omega
    obtain ⟨r, g1, g2, g3⟩ := key zs.length 0 N (left - (zs.length : Nat)) (by omega) (by omega) (by omega) (by omega)
    refine ⟨r, by simpa using g1, by omega, fun h2 => ⟨by omega, fun z hz => ?_⟩⟩
    obtain ⟨j, hj⟩ := List.getElem?_of_mem hz
    have := g3 h2 j (Nat.zero_le _) z hj; omega
end Go.Lg.S
