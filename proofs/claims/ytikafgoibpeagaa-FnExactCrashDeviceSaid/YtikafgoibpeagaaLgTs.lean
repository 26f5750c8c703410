/- The texts' words on values that are known: rules for simp. -/
import Derived.Test.YtikafgoibpeagaaLgRb
import Derived.Laws.Strings
namespace Go.Lg
set_option linter.unusedVariables false
section
variable {α β γ : Type}
@[simp] theorem bd_some (x : β) (k : β → Option α) : bd (some x) k = k x := rfl
@[simp] theorem b2_some (x : β) (y : γ) (k : β → γ → Option α) : b2 (some (x, y)) k = k x y := rfl
@[simp] theorem asB_bool (b : Bool) (k : Bool → Option α) : asB (.bool b) k = k b := rfl
@[simp] theorem hp_eq (σ : LH) (l : List Value) (k : Value → LH → Option α) : hp σ l k = k (.pointer (some ⟨σ.next, 0, none⟩)) (σ.push { cells := l }) := rfl
@[simp] theorem c0_some (σ : LH) (k : LH → Option α) : c0 (some ([], σ)) k = k  σ := rfl
@[simp] theorem a1_agg (a : Value) (k : Value → Option α) : a1 (.agg #[a]) k = k a := rfl
@[simp] theorem c1_some (a : Value) (σ : LH) (k : Value → LH → Option α) : c1 (some ([a], σ)) k = k a σ := rfl
@[simp] theorem a2_agg (a : Value) (b : Value) (k : Value → Value → Option α) : a2 (.agg #[a, b]) k = k a b := rfl
@[simp] theorem c2_some (a : Value) (b : Value) (σ : LH) (k : Value → Value → LH → Option α) : c2 (some ([a, b], σ)) k = k a b σ := rfl
@[simp] theorem a3_agg (a : Value) (b : Value) (c : Value) (k : Value → Value → Value → Option α) : a3 (.agg #[a, b, c]) k = k a b c := rfl
@[simp] theorem c3_some (a : Value) (b : Value) (c : Value) (σ : LH) (k : Value → Value → Value → LH → Option α) : c3 (some ([a, b, c], σ)) k = k a b c σ := rfl
@[simp] theorem a4_agg (a : Value) (b : Value) (c : Value) (d : Value) (k : Value → Value → Value → Value → Option α) : a4 (.agg #[a, b, c, d]) k = k a b c d := rfl
@[simp] theorem c4_some (a : Value) (b : Value) (c : Value) (d : Value) (σ : LH) (k : Value → Value → Value → Value → LH → Option α) : c4 (some ([a, b, c, d], σ)) k = k a b c d σ := rfl
@[simp] theorem a5_agg (a : Value) (b : Value) (c : Value) (d : Value) (e : Value) (k : Value → Value → Value → Value → Value → Option α) : a5 (.agg #[a, b, c, d, e]) k = k a b c d e := rfl
@[simp] theorem a6_agg (a : Value) (b : Value) (c : Value) (d : Value) (e : Value) (f : Value) (k : Value → Value → Value → Value → Value → Value → Option α) : a6 (.agg #[a, b, c, d, e, f]) k = k a b c d e f := rfl
@[simp] theorem a7_agg (a : Value) (b : Value) (c : Value) (d : Value) (e : Value) (f : Value) (g : Value) (k : Value → Value → Value → Value → Value → Value → Value → Option α) : a7 (.agg #[a, b, c, d, e, f, g]) k = k a b c d e f g := rfl
@[simp] theorem a8_agg (a : Value) (b : Value) (c : Value) (d : Value) (e : Value) (f : Value) (g : Value) (h : Value) (k : Value → Value → Value → Value → Value → Value → Value → Value → Option α) : a8 (.agg #[a, b, c, d, e, f, g, h]) k = k a b c d e f g h := rfl
@[simp] theorem a9_agg (a : Value) (b : Value) (c : Value) (d : Value) (e : Value) (f : Value) (g : Value) (h : Value) (i : Value) (k : Value → Value → Value → Value → Value → Value → Value → Value → Value → Option α) : a9 (.agg #[a, b, c, d, e, f, g, h, i]) k = k a b c d e f g h i := rfl
@[simp] theorem a10_agg (a : Value) (b : Value) (c : Value) (d : Value) (e : Value) (f : Value) (g : Value) (h : Value) (i : Value) (j : Value) (k : Value → Value → Value → Value → Value → Value → Value → Value → Value → Value → Option α) : a10 (.agg #[a, b, c, d, e, f, g, h, i, j]) k = k a b c d e f g h i j := rfl
@[simp] theorem u0_list (k : Option α) : u0 [] k = k := rfl
@[simp] theorem u1_list (x0 : Value) (k : Value → Option α) : u1 [x0] k = k x0 := rfl
@[simp] theorem u2_list (x0 : Value) (x1 : Value) (k : Value → Value → Option α) : u2 [x0, x1] k = k x0 x1 := rfl
@[simp] theorem u3_list (x0 : Value) (x1 : Value) (x2 : Value) (k : Value → Value → Value → Option α) : u3 [x0, x1, x2] k = k x0 x1 x2 := rfl
@[simp] theorem u4_list (x0 : Value) (x1 : Value) (x2 : Value) (x3 : Value) (k : Value → Value → Value → Value → Option α) : u4 [x0, x1, x2, x3] k = k x0 x1 x2 x3 := rfl
@[simp] theorem u5_list (x0 : Value) (x1 : Value) (x2 : Value) (x3 : Value) (x4 : Value) (k : Value → Value → Value → Value → Value → Option α) : u5 [x0, x1, x2, x3, x4] k = k x0 x1 x2 x3 x4 := rfl
@[simp] theorem u6_list (x0 : Value) (x1 : Value) (x2 : Value) (x3 : Value) (x4 : Value) (x5 : Value) (k : Value → Value → Value → Value → Value → Value → Option α) : u6 [x0, x1, x2, x3, x4, x5] k = k x0 x1 x2 x3 x4 x5 := rfl
@[simp] theorem u7_list (x0 : Value) (x1 : Value) (x2 : Value) (x3 : Value) (x4 : Value) (x5 : Value) (x6 : Value) (k : Value → Value → Value → Value → Value → Value → Value → Option α) : u7 [x0, x1, x2, x3, x4, x5, x6] k = k x0 x1 x2 x3 x4 x5 x6 := rfl
@[simp] theorem u8_list (x0 : Value) (x1 : Value) (x2 : Value) (x3 : Value) (x4 : Value) (x5 : Value) (x6 : Value) (x7 : Value) (k : Value → Value → Value → Value → Value → Value → Value → Value → Option α) : u8 [x0, x1, x2, x3, x4, x5, x6, x7] k = k x0 x1 x2 x3 x4 x5 x6 x7 := rfl
@[simp] theorem u9_list (x0 : Value) (x1 : Value) (x2 : Value) (x3 : Value) (x4 : Value) (x5 : Value) (x6 : Value) (x7 : Value) (x8 : Value) (k : Value → Value → Value → Value → Value → Value → Value → Value → Value → Option α) : u9 [x0, x1, x2, x3, x4, x5, x6, x7, x8] k = k x0 x1 x2 x3 x4 x5 x6 x7 x8 := rfl
@[simp] theorem u10_list (x0 : Value) (x1 : Value) (x2 : Value) (x3 : Value) (x4 : Value) (x5 : Value) (x6 : Value) (x7 : Value) (x8 : Value) (x9 : Value) (k : Value → Value → Value → Value → Value → Value → Value → Value → Value → Value → Option α) : u10 [x0, x1, x2, x3, x4, x5, x6, x7, x8, x9] k = k x0 x1 x2 x3 x4 x5 x6 x7 x8 x9 := rfl
@[simp] theorem u11_list (x0 : Value) (x1 : Value) (x2 : Value) (x3 : Value) (x4 : Value) (x5 : Value) (x6 : Value) (x7 : Value) (x8 : Value) (x9 : Value) (x10 : Value) (k : Value → Value → Value → Value → Value → Value → Value → Value → Value → Value → Value → Option α) : u11 [x0, x1, x2, x3, x4, x5, x6, x7, x8, x9, x10] k = k x0 x1 x2 x3 x4 x5 x6 x7 x8 x9 x10 := rfl
@[simp] theorem u12_list (x0 : Value) (x1 : Value) (x2 : Value) (x3 : Value) (x4 : Value) (x5 : Value) (x6 : Value) (x7 : Value) (x8 : Value) (x9 : Value) (x10 : Value) (x11 : Value) (k : Value → Value → Value → Value → Value → Value → Value → Value → Value → Value → Value → Value → Option α) : u12 [x0, x1, x2, x3, x4, x5, x6, x7, x8, x9, x10, x11] k = k x0 x1 x2 x3 x4 x5 x6 x7 x8 x9 x10 x11 := rfl
@[simp] theorem u13_list (x0 : Value) (x1 : Value) (x2 : Value) (x3 : Value) (x4 : Value) (x5 : Value) (x6 : Value) (x7 : Value) (x8 : Value) (x9 : Value) (x10 : Value) (x11 : Value) (x12 : Value) (k : Value → Value → Value → Value → Value → Value → Value → Value → Value → Value → Value → Value → Value → Option α) : u13 [x0, x1, x2, x3, x4, x5, x6, x7, x8, x9, x10, x11, x12] k = k x0 x1 x2 x3 x4 x5 x6 x7 x8 x9 x10 x11 x12 := rfl
@[simp] theorem u14_list (x0 : Value) (x1 : Value) (x2 : Value) (x3 : Value) (x4 : Value) (x5 : Value) (x6 : Value) (x7 : Value) (x8 : Value) (x9 : Value) (x10 : Value) (x11 : Value) (x12 : Value) (x13 : Value) (k : Value → Value → Value → Value → Value → Value → Value → Value → Value → Value → Value → Value → Value → Value → Option α) : u14 [x0, x1, x2, x3, x4, x5, x6, x7, x8, x9, x10, x11, x12, x13] k = k x0 x1 x2 x3 x4 x5 x6 x7 x8 x9 x10 x11 x12 x13 := rfl
@[simp] theorem u15_list (x0 : Value) (x1 : Value) (x2 : Value) (x3 : Value) (x4 : Value) (x5 : Value) (x6 : Value) (x7 : Value) (x8 : Value) (x9 : Value) (x10 : Value) (x11 : Value) (x12 : Value) (x13 : Value) (x14 : Value) (k : Value → Value → Value → Value → Value → Value → Value → Value → Value → Value → Value → Value → Value → Value → Value → Option α) : u15 [x0, x1, x2, x3, x4, x5, x6, x7, x8, x9, x10, x11, x12, x13, x14] k = k x0 x1 x2 x3 x4 x5 x6 x7 x8 x9 x10 x11 x12 x13 x14 := rfl
@[simp] theorem u16_list (x0 : Value) (x1 : Value) (x2 : Value) (x3 : Value) (x4 : Value) (x5 : Value) (x6 : Value) (x7 : Value) (x8 : Value) (x9 : Value) (x10 : Value) (x11 : Value) (x12 : Value) (x13 : Value) (x14 : Value) (x15 : Value) (k : Value → Value → Value → Value → Value → Value → Value → Value → Value → Value → Value → Value → Value → Value → Value → Value → Option α) : u16 [x0, x1, x2, x3, x4, x5, x6, x7, x8, x9, x10, x11, x12, x13, x14, x15] k = k x0 x1 x2 x3 x4 x5 x6 x7 x8 x9 x10 x11 x12 x13 x14 x15 := rfl
@[simp] theorem u17_list (x0 : Value) (x1 : Value) (x2 : Value) (x3 : Value) (x4 : Value) (x5 : Value) (x6 : Value) (x7 : Value) (x8 : Value) (x9 : Value) (x10 : Value) (x11 : Value) (x12 : Value) (x13 : Value) (x14 : Value) (x15 : Value) (x16 : Value) (k : Value → Value → Value → Value → Value → Value → Value → Value → Value → Value → Value → Value → Value → Value → Value → Value → Value → Option α) : u17 [x0, x1, x2, x3, x4, x5, x6, x7, x8, x9, x10, x11, x12, x13, x14, x15, x16] k = k x0 x1 x2 x3 x4 x5 x6 x7 x8 x9 x10 x11 x12 x13 x14 x15 x16 := rfl
@[simp] theorem u18_list (x0 : Value) (x1 : Value) (x2 : Value) (x3 : Value) (x4 : Value) (x5 : Value) (x6 : Value) (x7 : Value) (x8 : Value) (x9 : Value) (x10 : Value) (x11 : Value) (x12 : Value) (x13 : Value) (x14 : Value) (x15 : Value) (x16 : Value) (x17 : Value) (k : Value → Value → Value → Value → Value → Value → Value → Value → Value → Value → Value → Value → Value → Value → Value → Value → Value → Value → Option α) : u18 [x0, x1, x2, x3, x4, x5, x6, x7, x8, x9, x10, x11, x12, x13, x14, x15, x16, x17] k = k x0 x1 x2 x3 x4 x5 x6 x7 x8 x9 x10 x11 x12 x13 x14 x15 x16 x17 := rfl
@[simp] theorem sc1_int (k : IntKind) (n : Int) (q : Option α) : sc1 (.int k n) q = q := rfl
@[simp] theorem sc1_bool (b : Bool) (q : Option α) : sc1 (.bool b) q = q := rfl
@[simp] theorem sc1_string (s : ByteArray) (q : Option α) : sc1 (.string s) q = q := rfl
@[simp] theorem sc1_slice (a : Option Addr) (n c : Nat) (q : Option α) : sc1 (.slice a n c) q = q := rfl
@[simp] theorem sc1_pointer (a : Option Addr) (q : Option α) : sc1 (.pointer a) q = q := rfl
@[simp] theorem sc1_nilFunc  (q : Option α) : sc1 (.nilFunc) q = q := rfl
@[simp] theorem sc1_func (f : Fn) (a b : Array Value) (q : Option α) : sc1 (.func f a b) q = q := rfl
@[simp] theorem pBin_eql (sh : Shape) (k : IntKind) (a b : Int) : pBin sh .eql (.int k a) (.int k b) = some (.bool (decide (a = b))) := by have : (a == b) = decide (a = b) := (by rw [Bool.eq_iff_iff]; simp); simp [pBin, pInts, pCmp, this]
@[simp] theorem pBin_neq (sh : Shape) (k : IntKind) (a b : Int) : pBin sh .neq (.int k a) (.int k b) = some (.bool (decide (a ≠ b))) := by have : (a == b) = decide (a = b) := (by rw [Bool.eq_iff_iff]; simp); simp [pBin, pInts, pCmp, bne, this]
@[simp] theorem pBin_lss (sh : Shape) (k : IntKind) (a b : Int) : pBin sh .lss (.int k a) (.int k b) = some (.bool (decide (a < b))) := by simp [pBin, pInts, pCmp]
@[simp] theorem pBin_leq (sh : Shape) (k : IntKind) (a b : Int) : pBin sh .leq (.int k a) (.int k b) = some (.bool (decide (a ≤ b))) := by simp [pBin, pInts, pCmp]
@[simp] theorem pBin_gtr (sh : Shape) (k : IntKind) (a b : Int) : pBin sh .gtr (.int k a) (.int k b) = some (.bool (decide (a > b))) := by simp [pBin, pInts, pCmp]
@[simp] theorem pBin_geq (sh : Shape) (k : IntKind) (a b : Int) : pBin sh .geq (.int k a) (.int k b) = some (.bool (decide (a ≥ b))) := by simp [pBin, pInts, pCmp]
@[simp] theorem pBin_add (sh : Shape) (k : IntKind) (a b : Int) : pBin sh .add (.int k a) (.int k b) = some (.int k (k.wrap (a + b))) := by simp [pBin, pInts]
@[simp] theorem pBin_sub (sh : Shape) (k : IntKind) (a b : Int) : pBin sh .sub (.int k a) (.int k b) = some (.int k (k.wrap (a - b))) := by simp [pBin, pInts]
@[simp] theorem pBin_mul (sh : Shape) (k : IntKind) (a b : Int) : pBin sh .mul (.int k a) (.int k b) = some (.int k (k.wrap (a * b))) := by simp [pBin, pInts]
theorem pBin_rem (sh : Shape) (k : IntKind) (a b : Int) (h : b ≠ 0) : pBin sh .rem (.int k a) (.int k b) = some (.int k (a.tmod b)) := by simp [pBin, pInts, h]
theorem pBin_quo (sh : Shape) (k : IntKind) (a b : Int) (h : b ≠ 0) : pBin sh .quo (.int k a) (.int k b) = some (.int k (k.wrap (a.tdiv b))) := by simp [pBin, pInts, h]
@[simp] theorem pBin_beq (a b : Bool) : pBin .bool .eql (.bool a) (.bool b) = some (.bool (a == b)) := rfl
@[simp] theorem pBin_bne (a b : Bool) : pBin .bool .neq (.bool a) (.bool b) = some (.bool (!(a == b))) := rfl
theorem toList_inj {a b : ByteArray} : a.toList = b.toList ↔ a = b := by
  constructor
  · intro h
    rw [ByteArray.toList_eq, ByteArray.toList_eq] at h
    cases a; cases b; simp at h; rw [h]
  · rintro rfl; rfl
@[simp] theorem pBin_seql (sh : Shape) (a b : ByteArray) : pBin sh .eql (.string a) (.string b) = some (.bool (decide (a = b))) := by
  simp only [pBin, pStrs, Option.some.injEq, Value.bool.injEq]
  rw [Bool.eq_iff_iff]; simp [toList_inj]
@[simp] theorem pBin_sneq (sh : Shape) (a b : ByteArray) : pBin sh .neq (.string a) (.string b) = some (.bool (decide (a ≠ b))) := by
  simp only [pBin, pStrs, Option.some.injEq, Value.bool.injEq]
  rw [Bool.eq_iff_iff]; simp [toList_inj]
theorem pBin_sadd (sh : Shape) (a b : ByteArray) (h : a.size + b.size ≤ 9223372036854775807) : pBin sh .add (.string a) (.string b) = some (.string (a ++ b)) := by
  have : ¬ (((a.size + b.size : Nat) : Int) > IntKind.i64.max) := by simp [IntKind.max, IntKind.bits, IntKind.signed]; omega
  simp only [pBin, pStrs, if_neg this]
@[simp] theorem pUn_not (b : Bool) : pUn .not (.bool b) = some (.bool !b) := rfl
@[simp] theorem pLs_string (s : ByteArray) : pLs (.string s) = some (.int .i64 s.size) := rfl
@[simp] theorem pLen_slice (a : Option Addr) (n c : Nat) : pLen (.slice a n c) = some (.int .i64 n) := rfl
theorem wrapI {n : Int} (h : inI n) : IntKind.i64.wrap n = n := by
  obtain ⟨h1, h2⟩ := h
  simp only [IntKind.wrap, IntKind.signed, IntKind.bits]
  simp
  omega
end
end Go.Lg
