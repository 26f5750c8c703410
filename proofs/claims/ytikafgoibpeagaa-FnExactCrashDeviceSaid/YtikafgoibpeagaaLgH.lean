/- Operations, part 2: those that only reckon. -/
import Derived.Test.YtikafgoibpeagaaLgG
import Derived.Laws.StructEq
namespace Go.Lg
set_option linter.unusedVariables false
set_option linter.unusedSimpArgs false

section
variable {P : Program} {π : Pl} {w : World}

theorem run_ok_of_eq {α : Type} {r : Result α} {v : α} {w : World} (h : r = .ok v w) : r = .ok v w := h

/-! ### whole numbers, texts -/
theorem run_pInts (op : BinOp) (T : TypeId) (x0 y0 : Operand) (k : IntKind) (a b : Int) {v : Value} (h : pInts op k a b = some v) :
    ((do eqGuard op T x0 y0 (.int k a) (.int k b); binOp op T (.int k a) (.int k b)) : Sem Value).run P w = .ok v w ∧ VR π v v := by
  cases op <;> simp only [pInts, pCmp, Option.some.injEq, reduceCtorEq] at h
  case quo =>
    split at h
    · cases h
    · rename_i hb; cases h; exact ⟨by simp [eqGuard, binOp, Op.intDiv, hb], .int _ _⟩
  case rem =>
    split at h
    · cases h
    · rename_i hb; cases h; exact ⟨by simp [eqGuard, binOp, Op.intDiv, hb], .int _ _⟩
  all_goals (subst h; exact ⟨by simp [eqGuard, binOp, Op.intArith, Op.intBits, Op.intCmp], by constructor⟩)

theorem run_pShift (op : BinOp) (T : TypeId) (x0 y0 : Operand) (k k' : IntKind) (a b : Int) {v : Value} (hop : op = .shl ∨ op = .shr) (h : pShift op k a b = some v) :
    ((do eqGuard op T x0 y0 (.int k a) (.int k' b); binOp op T (.int k a) (.int k' b)) : Sem Value).run P w = .ok v w ∧ VR π v v := by
  rcases hop with rfl | rfl <;> (simp only [pShift] at h; split at h; · cases h) <;> (rename_i hb; cases h; exact ⟨by simp [eqGuard, binOp, Op.shift, hb], .int _ _⟩)

theorem run_pStrs (op : BinOp) (T : TypeId) (x0 y0 : Operand) (a b : ByteArray) {v : Value} (h : pStrs op a b = some v) :
    ((do eqGuard op T x0 y0 (.string a) (.string b); binOp op T (.string a) (.string b)) : Sem Value).run P w = .ok v w ∧ VR π v v := by
  cases op <;> simp only [pStrs, Option.some.injEq, reduceCtorEq] at h
  case add =>
    split at h
    · cases h
    · rename_i hb; cases h; exact ⟨by simp only [eqGuard, binOp, Op.stringOp, Sem.run_bind]; rw [if_neg hb]; simp, .string _⟩
  all_goals (subst h; exact ⟨by simp [eqGuard, binOp, Op.stringOp], by constructor⟩)

theorem eqIn_slcL (n : Nat) {T e : TypeId} (hu : P.underlying T = some (.slice e)) (l c : Nat) (b : Option Addr) (l' c' : Nat) : (Op.equalIn (n + 1) T (.slice none l c) (.slice b l' c')).run P w = .ok b.isNone w := by
  simp [Op.equalIn, run_underlying hu]
theorem eqIn_slcR (n : Nat) {T e : TypeId} (hu : P.underlying T = some (.slice e)) (l c : Nat) (a : Addr) (l' c' : Nat) : (Op.equalIn (n + 1) T (.slice (some a) l c) (.slice none l' c')).run P w = .ok false w := by
  simp [Op.equalIn, run_underlying hu]
theorem eqIn_ptrL (n : Nat) {T e : TypeId} (hu : P.underlying T = some (.pointer e)) (b : Option Addr) : (Op.equalIn (n + 1) T (.pointer none) (.pointer b)).run P w = .ok b.isNone w := by
  simp [Op.equalIn, run_underlying hu]
theorem eqIn_ptrR (n : Nat) {T e : TypeId} (hu : P.underlying T = some (.pointer e)) (a : Addr) : (Op.equalIn (n + 1) T (.pointer (some a)) (.pointer none)).run P w = .ok false w := by
  simp [Op.equalIn, run_underlying hu]

theorem run_pEq {T : TypeId} {ti : TI} {i : TypeInfo} {d : TypeDesc} {z : Value} (hT : TIok P T ti i d z) {x x' y y' : Value} (hx : VR π x x') (hy : VR π y y') {b : Bool}
    (h : pEq ti.shape x y = some b) : (∀ op', op' = BinOp.eql ∨ op' = BinOp.neq → ∀ x0 y0, (eqGuard op' T x0 y0 x' y').run P w = .ok () w) ∧ (Op.equal T x' y').run P w = .ok b w ∧
      (binOp .eql T x' y' = (do pure (.bool (← Op.equal T x' y')))) ∧ (binOp .neq T x' y' = (do pure (.bool (!(← Op.equal T x' y'))))) := by
  have hsh := hT.shape
  unfold pEq at h
  split at h
  · rename_i he
    have hd : d = .bool := shape_bool (hsh.trans he)
    cases hx; cases hy; cases h
    exact ⟨fun op' ho x0 y0 => by rcases ho with rfl | rfl <;> simp [eqGuard], run_equal_bool w T _ _ (by rw [hT.und, hd]), rfl, rfl⟩
  · rename_i e b' n c he
    obtain ⟨e', hd⟩ : ∃ e, d = .slice e := ⟨_, shape_slice (hsh.trans he)⟩
    have hu : P.underlying T = some (.slice e') := by rw [hT.und, hd]
    cases hx
    cases hy with
    | slcN => cases h; exact ⟨fun op' ho x0 y0 => by rcases ho with rfl | rfl <;> simp [eqGuard], eqIn_slcL 9999 hu _ _ _ _ _, rfl, rfl⟩
    | slc => cases h; exact ⟨fun op' ho x0 y0 => by rcases ho with rfl | rfl <;> simp [eqGuard], eqIn_slcL 9999 hu _ _ _ _ _, rfl, rfl⟩
  · rename_i e a n c he
    obtain ⟨e', hd⟩ : ∃ e, d = .slice e := ⟨_, shape_slice (hsh.trans he)⟩
    have hu : P.underlying T = some (.slice e') := by rw [hT.und, hd]
    cases hx; cases hy; cases h
    exact ⟨fun op' ho x0 y0 => by rcases ho with rfl | rfl <;> simp [eqGuard], eqIn_slcR 9999 hu _ _ _ _ _, rfl, rfl⟩
  · rename_i b' he
    obtain ⟨e', hd⟩ : ∃ e, d = .pointer e := shape_ptr (hsh.trans he)
    have hu : P.underlying T = some (.pointer e') := by rw [hT.und, hd]
    cases hx
    cases hy with
    | ptrN => cases h; exact ⟨fun op' ho x0 y0 => by rcases ho with rfl | rfl <;> simp [eqGuard], eqIn_ptrL 9999 hu _, rfl, rfl⟩
    | ptr => cases h; exact ⟨fun op' ho x0 y0 => by rcases ho with rfl | rfl <;> simp [eqGuard], eqIn_ptrL 9999 hu _, rfl, rfl⟩
  · rename_i a he
    obtain ⟨e', hd⟩ : ∃ e, d = .pointer e := shape_ptr (hsh.trans he)
    have hu : P.underlying T = some (.pointer e') := by rw [hT.und, hd]
    cases hx; cases hy; cases h
    exact ⟨fun op' ho x0 y0 => by rcases ho with rfl | rfl <;> simp [eqGuard], eqIn_ptrR 9999 hu _, rfl, rfl⟩
  · cases h

theorem run_pBin {T : TypeId} {ti : TI} {i : TypeInfo} {d : TypeDesc} {z : Value} (hT : TIok P T ti i d z) (op : BinOp) (x0 y0 : Operand) {x x' y y' v : Value} (hx : VR π x x') (hy : VR π y y')
    (h : pBin ti.shape op x y = some v) : ∃ v', ((do eqGuard op T x0 y0 x' y'; binOp op T x' y') : Sem Value).run P w = .ok v' w ∧ VR π v v' := by
  unfold pBin at h
  split at h
  · rename_i k a k' b
    cases hx; cases hy
    split at h
    · exact ⟨v, run_pShift _ _ _ _ _ _ _ _ (.inl rfl) h⟩
    · exact ⟨v, run_pShift _ _ _ _ _ _ _ _ (.inr rfl) h⟩
    · split at h
      · rename_i hk; subst hk; exact ⟨v, run_pInts _ _ _ _ _ _ _ h⟩
      · cases h
  · cases hx; cases hy; exact ⟨v, run_pStrs _ _ _ _ _ _ h⟩
  · split at h
    · obtain ⟨b, hb, hv⟩ := Option.map_eq_some_iff.mp h
      obtain ⟨h1, h2, h3, _⟩ := run_pEq (w := w) hT hx hy hb
      subst hv
      exact ⟨.bool b, by simp only [Sem.run_bind, h1 _ (.inl rfl) x0 y0, Result.andThen_ok, h3, h2, Sem.run_pure], .bool b⟩
    · obtain ⟨b, hb, hv⟩ := Option.map_eq_some_iff.mp h
      obtain ⟨h1, h2, _, h4⟩ := run_pEq (w := w) hT hx hy hb
      subst hv
      exact ⟨.bool (!b), by simp only [Sem.run_bind, h1 _ (.inr rfl) x0 y0, Result.andThen_ok, h4, h2, Sem.run_pure], .bool _⟩
    · cases h

/-! ### structs of plain cells compared -/
def plainField (P : Program) : List Field → List Nat → Nat → Bool
  | [], [], _ => true
  | f :: r, k :: ks, i => (f.name != "_") && (f.offset == i) && (match P.underlying f.type with | some .bool => k == 0 | some (.int _) => k == 1 | some .string => k == 2 | _ => false) && plainField P r ks (i + 1)
  | _, _, _ => false

def eqTOk (P : Program) (t : TypeId) (ks : List Nat) : Bool :=
  match P.underlying t with
  | some (.struct fs) => !P.stoodInHeld t && !P.eqGuardType P.depth t && plainField P fs.toList ks 0
  | _ => false

theorem eqFields_run (xs ys : Array Value) : ∀ (fs : List Field) (ks : List Nat) (i : Nat), plainField P fs ks i = true → 
    ∀ b, eqCells ks (xs.toList.drop i) (ys.toList.drop i) = some b → (Op.eqFields 9999 xs ys fs).run P w = .ok b w
  | [], [], i, _, b, hb => by
    cases h1 : xs.toList.drop i with
    | nil => cases h2 : ys.toList.drop i with
      | nil => rw [h1, h2] at hb; cases hb; simp [Op.eqFields]
      | cons => rw [h1, h2] at hb; cases hb
    | cons => rw [h1] at hb; cases hb
  | f :: fs, kd :: ks, i, hp, b, hb => by
    simp only [plainField, Bool.and_eq_true, bne_iff_ne, ne_eq, beq_iff_eq] at hp
    obtain ⟨⟨⟨h1, h2⟩, h3⟩, h4⟩ := hp
    have hxi : i < xs.size := by
      rcases Nat.lt_or_ge i xs.size with h | h
      · exact h
      · rw [List.drop_eq_nil_of_le (by simpa using h)] at hb; cases hb
    rw [List.drop_eq_getElem_cons (by simpa using hxi)] at hb
    have hyi : i < ys.size := by
      rcases Nat.lt_or_ge i ys.size with h | h
      · exact h
      · rw [List.drop_eq_nil_of_le (as := ys.toList) (by simpa using h)] at hb; cases hb
    rw [List.drop_eq_getElem_cons (l := ys.toList) (by simpa using hyi)] at hb
    simp only [eqCells, Array.getElem_toList] at hb
    obtain ⟨r, hr, hb⟩ := Option.bind_eq_some_iff.mp hb
    have hag : (isAgg f.type).run P w = .ok false w := by
      split at h3 <;> first | (rename_i hu; simp [isAgg, run_underlying hu]; done) | cases h3
    have hpx : (part f.type xs f.offset).run P w = .ok xs[i] w := by simp [part, hag, h2, hxi]
    have hpy : (part f.type ys f.offset).run P w = .ok ys[i] w := by simp [part, hag, h2, hyi]
    have heq : (Op.equalIn 9999 f.type xs[i] ys[i]).run P w = .ok r w := by
      generalize xs[i] = x at hr
      generalize ys[i] = y at hr
      unfold eqCell at hr
      split at hr
      · split at hr
        · rename_i hk; subst hk; cases hr
          split at h3
          · simp at h3
          · rename_i hu; exact run_equalIn_int w 9998 f.type _ _ _ _ hu
          · simp at h3
          · cases h3
        · cases hr
      · cases hr
        split at h3
        · rename_i hu; exact run_equalIn_bool w 9998 f.type _ _ hu
        · simp at h3
        · simp at h3
        · cases h3
      · cases hr
        split at h3
        · simp at h3
        · simp at h3
        · rename_i hu; exact run_equalIn_string w 9998 f.type _ _ hu
        · cases h3
      · cases hr
    have hn : f.name ≠ "_" := h1
    simp only [Op.eqFields, if_pos hn, Sem.run_bind, hpx, hpy, heq, Result.andThen_ok]
    cases r with
    | false => simp at hb; subst hb; simp
    | true => simp only [if_true] at hb; simpa using eqFields_run xs ys fs ks (i + 1) h4 b hb
  | [], _ :: _, _, hp, _, _ => by simp [plainField] at hp
  | _ :: _, [], _, hp, _, _ => by simp [plainField] at hp

theorem eqCells_congr {π : Pl} : ∀ {ks : List Nat} {xs xs' ys ys' : List Value} {b : Bool}, VRs π xs xs' → VRs π ys ys' → eqCells ks xs ys = some b → eqCells ks xs' ys' = some b
  | [], _, _, _, _, _, .nil, .nil, h => h
  | [], _, _, _, _, _, .cons _ _, _, h => by simp [eqCells] at h
  | [], _, _, _, _, _, .nil, .cons _ _, h => by simp [eqCells] at h
  | k :: ks, _, _, _, _, _, .nil, _, h => by simp [eqCells] at h
  | k :: ks, _, _, _, _, _, .cons _ _, .nil, h => by simp [eqCells] at h
  | k :: ks, _, _, _, _, _, .cons hx tx, .cons hy ty, h => by
    simp only [eqCells] at h ⊢
    obtain ⟨r, hr, hb⟩ := Option.bind_eq_some_iff.mp h
    have : ∀ {x x' y y' : Value}, VR π x x' → VR π y y' → ∀ {r}, eqCell k x y = some r → eqCell k x' y' = some r := by
      intro x x' y y' hx hy r hr
      unfold eqCell at hr
      split at hr
      · cases hx; cases hy; exact hr
      · cases hx; cases hy; exact hr
      · cases hx; cases hy; exact hr
      · cases hr
    rw [this hx hy hr]
    cases r with
    | false => exact hb
    | true => exact eqCells_congr tx ty hb

theorem run_pEqS {T : TypeId} {ks : List Nat} (hT : eqTOk P T ks = true) (op : BinOp) (x0 y0 : Operand) {x x' y y' v : Value} (hx : VR π x x') (hy : VR π y y')
    (h : pEqS ks op x y = some v) : ∃ v', ((do eqGuard op T x0 y0 x' y'; binOp op T x' y') : Sem Value).run P w = .ok v' w ∧ VR π v v' := by
  unfold eqTOk at hT
  split at hT
  · rename_i fs hu
    simp only [Bool.and_eq_true, Bool.not_eq_true'] at hT
    obtain ⟨⟨h1, h2⟩, h3⟩ := hT
    have hf : P.fieldsOf T = fs := by simp [Program.fieldsOf, hu]
    have key : ∀ xs ys : Array Value, ∀ b, eqCells ks xs.toList ys.toList = some b → (Op.equalIn 10000 T (.agg xs) (.agg ys)).run P w = .ok b w := fun xs ys b hb => by
      rw [show (10000 : Nat) = 9999 + 1 from rfl, run_equalIn_struct w 9999 T xs ys (by rw [hf]; exact hu) h1, hf]
      exact eqFields_run xs ys fs.toList ks 0 h3 b (by simpa using hb)
    have hgd : ∀ op' xs ys, (eqGuard op' T x0 y0 (.agg xs) (.agg ys)).run P w = .ok () w := fun op' xs ys => by
      unfold eqGuard
      cases op' <;> simp [h2]
    unfold pEqS at h
    split at h
    · split at h
      · obtain ⟨b, hb, hv⟩ := Option.map_eq_some_iff.mp h
        subst hv
        obtain ⟨xs', rfl, hxs, _⟩ := hx.agg_list
        obtain ⟨ys', rfl, hys, _⟩ := hy.agg_list
        exact ⟨.bool b, by rw [Sem.run_bind, hgd, Result.andThen_ok, run_eql_struct, key _ _ b (eqCells_congr hxs hys hb)]; rfl, .bool b⟩
      · cases h
    · split at h
      · obtain ⟨b, hb, hv⟩ := Option.map_eq_some_iff.mp h
        subst hv
        obtain ⟨xs', rfl, hxs, _⟩ := hx.agg_list
        obtain ⟨ys', rfl, hys, _⟩ := hy.agg_list
        exact ⟨.bool (!b), by rw [Sem.run_bind, hgd, Result.andThen_ok, run_neq_struct, key _ _ b (eqCells_congr hxs hys hb)]; rfl, .bool _⟩
      · cases h
    · cases h
  · cases hT
end
end Go.Lg
