/- Every operation, all of them at once. -/
import Derived.Test.YtikafgoibpeagaaLgP
namespace Go.Lg
set_option linter.unusedVariables false
set_option linter.unusedSimpArgs false
set_option linter.unusedSectionVars false

section
variable {P : Program} {E : Env} (hE : EnvOk P E) (hq : ∀ T q ks, E.eqT T = q :: ks → eqTOk P T (q :: ks) = true) {call : Cal} (hc : CallOk P call) {f : Nat} {fr : Fr} {σ : LH} {π : Pl} {a : Act} {w : World} (hr : Rel fr σ π a w)
  {α : Type} {k : Option FV → List (Nat × List Value) → LH → Option α} {res : α} {o : Oper} {next : Act → World → Prop} {Q : Exit → Act → World → Prop} (hn : Goes fr σ π a w k res o next)
include hE hq hc hr hn

theorem op_pick {c x y : Operand} (ho : o.op = .pick c x y) (h : opC E call f o fr σ k = some res) : o.wp P a w next Q := by
  simp only [opC, ho] at h
  obtain ⟨v, h, hv⟩ := evV_rel hr h
  obtain ⟨b, rfl, h⟩ := asB_some h
  have hax : a.eval c = .bool b := by generalize a.eval c = ax at hv; cases hv; rfl
  cases b with
  | true =>
    obtain ⟨u, h, hu⟩ := ev_rel hr (show fr.ev x _ = some res from h)
    exact goes_plain hr hn (by simp only [execOp, ho]; simp [hax, asBool]) hu h
  | false =>
    obtain ⟨u, h, hu⟩ := ev_rel hr (show fr.ev y _ = some res from h)
    exact goes_plain hr hn (by simp only [execOp, ho]; simp [hax, asBool]) hu h

theorem op_fieldAddr {T i : Nat} {x : Operand} (ho : o.op = .fieldAddr T x i) (h : opC E call f o fr σ k = some res) : o.wp P a w next Q := by
  simp only [opC, ho] at h
  split at h
  · rename_i s b g z fs hti
    obtain ⟨ii, ds, zz, hT⟩ := hE.tiok hti
    split at h
    · rename_i off size ag hj
      cases hb : Nat.beq size 0 with
      | true => rw [hb] at h; cases h
      | false =>
        rw [hb] at h
        have h0 : size ≠ 0 := fun he => by rw [he] at hb; cases hb
        obtain ⟨y, h, hy⟩ := ev_rel hr (show fr.ev x _ = some res from h)
        have run : ∀ {r oo : Nat}, a.eval x = .pointer (some ⟨r, oo, none⟩) → (execOp a.eval o).run P w = .ok (.value (.pointer (some ⟨r, oo + off, none⟩))) w := by
          intro r oo hx
          simp only [execOp, ho]
          refine lookv _ ?_
          rw [hx]; exact run_fieldAt_lg hT rfl hj h0 r oo
        generalize hax : a.eval x = ax at hy
        cases hy with
        | reg t oo e hk => exact goes_plain hr hn (run hax) (by rw [Nat.add_right_comm]; exact .reg t (oo + off) e hk) h
        | val p p' hp =>
          obtain ⟨v, hv, h2⟩ := bind_some h
          clear h
          unfold pFA at hv
          split at hv
          · cases hv
            cases hp with
            | ptr b oo e hk => exact goes_plain hr hn (run hax) (by rw [Addr.add_none, Nat.add_right_comm]; exact .val _ _ (.ptr b (oo + off) e hk)) h2
          · cases hv
        | tup => cases h
        | und => cases h
    · cases h
  · cases h

theorem op_field {T i : Nat} {x : Operand} (ho : o.op = .field T x i) (h : opC E call f o fr σ k = some res) : o.wp P a w next Q := by
  simp only [opC, ho] at h
  split at h
  · rename_i s b g z fs hti
    obtain ⟨ii, ds, zz, hT⟩ := hE.tiok hti
    split at h
    · rename_i off size ag hj
      obtain ⟨v, h, hv⟩ := evV_rel hr h
      obtain ⟨u, hu, h⟩ := bind_some h
      obtain ⟨fields, ff, fi, fd, hu1, hf, ho1, hi, hsz, hd, ha⟩ := field_info hT rfl hj
      obtain ⟨cs', hx, v', r1, r2⟩ := run_part (P := P) (w := w) hi hsz hd ha hv hu
      refine goes_plain hr hn (v := v') ?_ (.val _ _ r2) h
      simp only [execOp, ho]
      refine lookv _ ?_
      simp [Instr.field, run_underlying hu1, hf, hx, asAgg, ho1, r1]
    · cases h
  · cases h

theorem op_indexAddr {T : Nat} {x i : Operand} (ho : o.op = .indexAddr T x i) (h : opC E call f o fr σ k = some res) : o.wp P a w next Q := by
  simp only [opC, ho] at h
  split at h
  · rename_i s b g z e hti
    obtain ⟨_, _, _, hT⟩ := hE.tiok hti
    split at h
    · rename_i te hte
      obtain ⟨_, _, _, hTe⟩ := hE.tiok hte
      obtain ⟨v, h, hv⟩ := evV_rel hr h
      obtain ⟨u, h, hu⟩ := evV_rel hr h
      obtain ⟨y, hy, h⟩ := bind_some h
      obtain ⟨v', r1, r2⟩ := run_indexAt_lg (P := P) (w := w) hT rfl hTe hv hu hy
      exact goes_plain hr hn (by simp only [execOp, ho]; exact lookv _ r1) (.val _ _ r2) h
    · cases h
  · cases h

theorem op_index {T : Nat} {x i : Operand} (ho : o.op = .index T x i) (h : opC E call f o fr σ k = some res) : o.wp P a w next Q := by
  simp only [opC, ho] at h
  split at h
  · rename_i s b g z hti
    obtain ⟨_, _, _, hT⟩ := hE.tiok hti
    have hu' : P.underlying T = some .string := by rw [hT.und, shape_str hT.shape]
    obtain ⟨v, h, hv⟩ := evV_rel hr h
    obtain ⟨u, h, hu⟩ := evV_rel hr h
    obtain ⟨y, hy, h⟩ := bind_some h
    generalize hax : a.eval x = ax at hv
    generalize hai : a.eval i = ai at hu
    unfold pIx at hy
    split at hy
    · cases hv; cases hu
      split at hy
      · rename_i hge
        split at hy
        · rename_i bb hb
          cases hy
          refine goes_plain hr hn ?_ (.val _ _ (.int _ _)) h
          simp only [execOp, ho]
          refine lookv _ ?_
          simp [Instr.index, hax, hai, asIntOf, run_underlying hu', hge, hb]
        · cases hy
      · cases hy
    · cases hy
  · cases h

theorem op_nilCheck {x : Operand} (ho : o.op = .nilCheck x) (h : opC E call f o fr σ k = some res) : o.wp P a w next Q := by
  simp only [opC, ho] at h
  obtain ⟨y, h, hy⟩ := ev_rel hr h
  generalize hax : a.eval x = ax at hy
  cases hy with
  | reg t oo e hk => exact goes_plain hr hn (by simp only [execOp, ho, hax]; rfl) (.reg t oo e hk) h
  | val p p' hp =>
    obtain ⟨v, hv, h2⟩ := bind_some h
    clear h
    unfold pNil at hv
    split at hv
    · cases hv
      cases hp with
      | ptr b oo e hk => exact goes_plain hr hn (by simp only [execOp, ho, hax]; rfl) (.val _ _ (.ptr b oo e hk)) h2
    · cases hv
      cases hp with
      | func _ _ _ _ _ g1 g2 g3 g4 => exact goes_plain hr hn (by simp only [execOp, ho, hax]; rfl) (.val _ _ (.func _ _ _ _ _ g1 g2 g3 g4)) h2
    · cases hv
  | tup => cases h
  | und => cases h

theorem op_binOp {op : BinOp} {T T' : Nat} {x y : Operand} (ho : o.op = .binOp op T x y T') (h : opC E call f o fr σ k = some res) : o.wp P a w next Q := by
  simp only [opC, ho] at h
  split at h
  · rename_i ti hti
    obtain ⟨_, _, _, hT⟩ := hE.tiok hti
    obtain ⟨v, h, hv⟩ := evV_rel hr h
    obtain ⟨u, h, hu⟩ := evV_rel hr h
    split at h
    · split at h
      · cases h
      · rename_i q ks hks
        obtain ⟨r, hr1, h⟩ := bind_some h
        obtain ⟨v', r1, r2⟩ := run_pEqS (P := P) (w := w) (hq T q ks hks) op x y hv hu hr1
        exact goes_plain hr hn (by simp only [execOp, ho]; exact lookv _ r1) (.val _ _ r2) h
    · obtain ⟨r, hr1, h⟩ := bind_some h
      obtain ⟨v', r1, r2⟩ := run_pBin (P := P) (w := w) hT op x y hv hu hr1
      exact goes_plain hr hn (by simp only [execOp, ho]; exact lookv _ r1) (.val _ _ r2) h
  · cases h

theorem op_unOp {op : UnOp} {T : Nat} {x : Operand} (ho : o.op = .unOp op T x) (h : opC E call f o fr σ k = some res) : o.wp P a w next Q := by
  simp only [opC, ho] at h
  obtain ⟨v, h, hv⟩ := evV_rel hr h
  obtain ⟨y, hy, h⟩ := bind_some h
  generalize hax : a.eval x = ax at hv
  unfold pUn at hy
  split at hy
  · cases hy; cases hv
    exact goes_plain hr hn (by simp only [execOp, ho, hax]; exact lookv _ (by simp [Op.unary])) (.val _ _ (.bool _)) h
  · cases hy; cases hv
    exact goes_plain hr hn (by simp only [execOp, ho, hax]; exact lookv _ (by simp [Op.unary, Op.intArith])) (.val _ _ (.int _ _)) h
  · cases hy

theorem op_convert {S T : Nat} {x : Operand} (ho : o.op = .convert S T x) (h : opC E call f o fr σ k = some res) : o.wp P a w next Q := by
  simp only [opC, ho] at h
  split at h
  · rename_i s t hs ht
    obtain ⟨_, _, _, hS⟩ := hE.tiok hs
    obtain ⟨_, _, _, hT⟩ := hE.tiok ht
    split at h
    · rename_i q1 q2 e1 e2
      have u1 : P.underlying S = some (.int q1) := by rw [hS.und, shape_int (hS.shape.trans e1)]
      have u2 : P.underlying T = some (.int q2) := by rw [hT.und, shape_int (hT.shape.trans e2)]
      obtain ⟨v, h, hv⟩ := evV_rel hr h
      obtain ⟨y, hy, h⟩ := bind_some h
      generalize hax : a.eval x = ax at hv
      unfold pInt at hy
      split at hy
      · cases hy; cases hv
        refine goes_plain hr hn ?_ (.val _ _ (.int _ _)) h
        simp only [execOp, ho, hax]
        exact lookv _ (by simp [convert, run_underlying u1, run_underlying u2, Conv.intToInt])
      · cases hy
    · rename_i e1 e2
      have u1 : P.underlying S = some .string := by rw [hS.und, shape_str (hS.shape.trans e1)]
      have u2 : P.underlying T = some .string := by rw [hT.und, shape_str (hT.shape.trans e2)]
      obtain ⟨v, h, hv⟩ := evV_rel hr h
      obtain ⟨y, hy, h⟩ := bind_some h
      generalize hax : a.eval x = ax at hv
      unfold pStr at hy
      split at hy
      · cases hy; cases hv
        refine goes_plain hr hn ?_ (.val _ _ (.string _)) h
        simp only [execOp, ho, hax]
        exact lookv _ (by simp [convert, run_underlying u1, run_underlying u2])
      · cases hy
    · rename_i e e1 e2
      split at h
      · rename_i s1 b1 g1 z1 he
        obtain ⟨_, _, _, hEe⟩ := hE.tiok he
        obtain ⟨v, h, hv⟩ := evV_rel hr h
        obtain ⟨y, hy, h⟩ := bind_some h
        obtain ⟨v', r1, r2⟩ := run_B2S_lg (P := P) hr hS e1 hEe rfl hT e2 hv hy
        exact goes_plain hr hn (by simp only [execOp, ho]; exact lookv _ r1) (.val _ _ r2) h
      · cases h
    · rename_i e e1 e2
      split at h
      · rename_i s1 b1 g1 z1 he
        obtain ⟨_, _, _, hEe⟩ := hE.tiok he
        obtain ⟨v, h, hv⟩ := evV_rel hr h
        obtain ⟨y, hy, h⟩ := bind_some h
        obtain ⟨v', w', π', r1, r2, r3⟩ := run_S2B_lg (P := P) hr hS e1 hT e2 hEe rfl hv hy
        exact goes_value hn (by simp only [execOp, ho]; exact lookv _ r1) (.val _ _ r2) h r3
      · cases h
    · cases h
  · cases h

theorem VRs_arr {π : Pl} {l : List Value} {xs : Array Operand} (h : VRs π l (xs.toList.map a.eval)) : l.toArray.size = (xs.map a.eval).size ∧ ∀ (i : Nat) v v', l.toArray[i]? = some v → (xs.map a.eval)[i]? = some v' → VR π v v' := by
  refine ⟨by simpa using h.len, fun i v v' hv hv' => ?_⟩
  obtain ⟨u, hu, hrr⟩ := h.get (i := i) (v := v) (by simpa using hv)
  have : (xs.toList.map a.eval)[i]? = some v' := by rw [← hv']; simp
  rw [this] at hu; cases hu; exact hrr

theorem op_makeFunc {fn : Fn} {xs ys : Array Operand} (ho : o.op = .makeFunc fn xs ys) (h : opC E call f o fr σ k = some res) : o.wp P a w next Q := by
  cases fn with
  | func g =>
    simp only [opC, ho] at h
    obtain ⟨l, h, hl⟩ := evVs_rel hr h
    obtain ⟨l2, h, hl2⟩ := evVs_rel hr h
    obtain ⟨s1, s2⟩ := VRs_arr hE hq hc hr hn hl
    obtain ⟨s3, s4⟩ := VRs_arr hE hq hc hr hn hl2
    refine goes_plain hr hn (v := .func (.func g) (xs.map a.eval) (ys.map a.eval)) ?_ (.val _ _ (.func g _ _ _ _ s1 s3 s2 s4)) h
    simp only [execOp, ho]
    exact lookv _ rfl
  | _ => simp [opC, ho] at h

theorem op_makeSlice {T : Nat} {x y : Operand} (ho : o.op = .makeSlice T x y) (h : opC E call f o fr σ k = some res) : o.wp P a w next Q := by
  simp only [opC, ho] at h
  split at h
  · rename_i s b g z e hti
    obtain ⟨_, _, _, hT⟩ := hE.tiok hti
    split at h
    · rename_i te hte
      obtain ⟨_, _, _, hTe⟩ := hE.tiok hte
      obtain ⟨v, h, hv⟩ := evV_rel hr h
      obtain ⟨u, h, hu⟩ := evV_rel hr h
      obtain ⟨r, hr1, h⟩ := bind_some h
      obtain ⟨v', w', π', r1, r2, r3⟩ := run_makeSlice_lg (P := P) hr hT rfl hTe hv hu hr1
      exact goes_value hn (by simp only [execOp, ho]; exact lookv _ r1) (.val _ _ r2) h r3
    · cases h
  · cases h

theorem op_slice {T : Nat} {x : Operand} {lo hi mx : Option Operand} (ho : o.op = .slice T x lo hi mx) (h : opC E call f o fr σ k = some res) : o.wp P a w next Q := by
  simp only [opC, ho] at h
  split at h
  · rename_i s b g z e hti
    obtain ⟨_, _, _, hT⟩ := hE.tiok hti
    split at h
    · rename_i te hte
      obtain ⟨_, _, _, hTe⟩ := hE.tiok hte
      obtain ⟨v, h, hv⟩ := evV_rel hr h
      obtain ⟨l, h, hl⟩ := evO_rel hr h
      obtain ⟨hh, h, hhh⟩ := evO_rel hr h
      obtain ⟨m, h, hm⟩ := evO_rel hr h
      obtain ⟨y, hy, h⟩ := bind_some h
      obtain ⟨v', r1, r2⟩ := run_sliceAt_slice (P := P) (w := w) rfl hTe hv hl hhh hm hy hT
      exact goes_plain hr hn (by simp only [execOp, ho]; exact lookv _ r1) (.val _ _ r2) h
    · cases h
  · rename_i s b g z hti
    obtain ⟨_, _, _, hT⟩ := hE.tiok hti
    split at h
    · obtain ⟨v, h, hv⟩ := evV_rel hr h
      obtain ⟨l, h, hl⟩ := evO_rel hr h
      obtain ⟨hh, h, hhh⟩ := evO_rel hr h
      obtain ⟨y, hy, h⟩ := bind_some h
      obtain ⟨v', r1, r2⟩ := run_sliceAt_str (P := P) (w := w) rfl hv hl hhh hy hT
      exact goes_plain hr hn (by simp only [execOp, ho]; exact lookv _ r1) (.val _ _ r2) h
    · cases h
  · cases h

theorem op_build {T : Nat} {ps : Array (Nat × Operand)} (ho : o.op = .build T ps) (h : opC E call f o fr σ k = some res) : o.wp P a w next Q := by
  simp only [opC, ho] at h
  split at h
  · rename_i s b g z fs hti
    obtain ⟨_, _, _, hT⟩ := hE.tiok hti
    obtain ⟨l, h, hl⟩ := evPs_rel hr h
    obtain ⟨y, hy, h⟩ := bind_some h
    obtain ⟨v', r1, r2⟩ := run_build_lg (P := P) (w := w) hT rfl (l' := ps.map fun p => (p.1, a.eval p.2)) (by simpa using hl) hy
    refine goes_plain hr hn (v := v') ?_ (.val _ _ r2) h
    simp only [execOp, ho]
    exact lookv _ r1
  · cases h

theorem op_buildSlice {T n : Nat} {ps : Array (Nat × Operand)} (ho : o.op = .buildSlice T n ps) (h : opC E call f o fr σ k = some res) : o.wp P a w next Q := by
  simp only [opC, ho] at h
  split at h
  · rename_i s b g z e hti
    obtain ⟨_, _, _, hT⟩ := hE.tiok hti
    split at h
    · rename_i te hte
      obtain ⟨_, _, _, hTe⟩ := hE.tiok hte
      obtain ⟨l, h, hl⟩ := evPs_rel hr h
      obtain ⟨r, hr1, h⟩ := bind_some h
      obtain ⟨v', w', π', r1, r2, r3⟩ := run_buildSlice_lg (P := P) hr hT rfl hTe (l' := ps.map fun p => (p.1, a.eval p.2)) (by simpa using hl) hr1
      exact goes_value hn (by simp only [execOp, ho]; exact lookv _ r1) (.val _ _ r2) h r3
    · cases h
  · cases h

theorem op_extract {x : Operand} {i : Nat} (ho : o.op = .extract x i) (h : opC E call f o fr σ k = some res) : o.wp P a w next Q := by
  simp only [opC, ho] at h
  obtain ⟨y, h, hy⟩ := ev_rel hr h
  generalize hax : a.eval x = ax at hy
  cases hy with
  | tup l arr hl =>
    simp only at h
    split at h
    · rename_i v hv
      obtain ⟨v', g1, g2⟩ := hl.get hv
      have : arr[i]? = some v' := by simpa using g1
      exact goes_plain hr hn (by simp only [execOp, ho, hax]; exact lookv _ (by simp [Instr.extract, this])) (.val _ _ g2) h
    · cases h
  | reg => cases h
  | val => cases h
  | und => cases h

theorem op_callV {g : Operand} {xs : Array Operand} {ts : Array Nat} (ho : o.op = .call { callee := .value g, args := xs, argTypes := ts }) (h : opC E call f o fr σ k = some res) : o.wp P a w next Q := by
  simp only [opC, ho] at h
  obtain ⟨v, h, hv⟩ := evV_rel hr h
  obtain ⟨gf, A, B, rfl, h⟩ := asF_some h
  obtain ⟨l, h, hl⟩ := evVs_rel hr h
  obtain ⟨r, hcl, h⟩ := bind_some h
  obtain ⟨rs, σ'⟩ := r
  generalize hax : a.eval g = ax at hv
  cases hv with
  | func _ _ _ A' B' s1 s2 s3 s4 =>
    have hA : VRs π A.toList A'.toList := VRs.of_get (by simpa using s1) fun i v v' hv hv' => s3 i v v' (by simpa using hv) (by simpa using hv')
    have hB : VRs π B.toList B'.toList := VRs.of_get (by simpa using s2) fun i v v' hv hv' => s4 i v v' (by simpa using hv) (by simpa using hv')
    obtain ⟨⟨fn, hfn, hname, hbody⟩, _⟩ := hc _ _ _ _ _ hcl
    have hb : fn.body.isNone = false := by cases hh : fn.body <;> simp_all
    have hnm : ¬ fn.name = "runtime.NumGoroutine" := by simpa using hname
    have run : (execOp a.eval o).run P w = .ok (.enter gf (A'.toList ++ xs.toList.map a.eval ++ B'.toList).toArray) w := by
      simp only [execOp, ho, resolve, hax, Deferred.ofValue]
      have hb0 : ¬ fn.body = none := by intro he; rw [he] at hb; cases hb
      have hA3 : A' ++ (xs.map a.eval ++ B') = (A'.toList ++ (xs.toList.map a.eval ++ B'.toList)).toArray := by apply Array.ext'; simp
      simp [invoke, callFunc, hfn, hnm, hb0, hA3]
    refine call_sound hr hc hcl ((hA.append hl).append hB) run fun v π' w' hrv hk => ?_
    split at h
    · obtain ⟨x, rfl, h⟩ := unN1 h
      simp only at h
      rcases hrv with ⟨y, e1, e2⟩ | ⟨e1, _⟩
      · cases e1
        exact hn _ _ _ _ _ _ h (fun z hz => by cases hz; exact .val _ _ e2) hk
      · exact absurd rfl e1
    · rename_i n hn1
      cases hb1 : Nat.beq n 1 with
      | true => rw [hb1] at h; cases h
      | false =>
        rw [hb1] at h
        obtain ⟨h1, h2⟩ := unN_some (show unN n rs _ = some res from h)
        rcases hrv with ⟨y, e1, e2⟩ | ⟨e1, arr, e2, e3⟩
        · rw [e1] at h1; rw [← h1] at hb1; cases hb1
        · subst e2
          exact hn _ _ _ _ _ _ h2 (fun z hz => by cases hz; exact .tup _ _ e3) hk

theorem noInt_of {U : Nat} {tu : TI} {i : TypeInfo} {d : TypeDesc} {z : Value} (hU : TIok P U tu i d z) (h : (∃ e, tu.shape = .slice e) ∨ tu.shape = .str) : NoInt P U := by
  refine ⟨d, hU.und, fun kk hd => ?_⟩
  have := hU.shape
  rw [hd] at this
  rcases h with ⟨e, h⟩ | h <;> · rw [h] at this; simp [shapeOf] at this

theorem op_builtin {b : Builtin} {xs : Array Operand} {ts : Array Nat} (ho : o.op = .call { callee := .builtin b, args := xs, argTypes := ts }) (h : opC E call f o fr σ k = some res) : o.wp P a w next Q := by
  have base : ∀ {args' : List Value} (_ : xs.toList.map a.eval = args'), (execOp a.eval o) = builtin b ts o.type (xs.map fun | .const _ => true | _ => false) args'.toArray := by
    intro args' he
    simp only [execOp, ho, resolve]
    subst he
    have hA3 : xs.map a.eval = (xs.toList.map a.eval).toArray := by apply Array.ext'; simp
    simp only [invoke, hA3]
    first | done | rfl
  cases b <;> simp only [opC, ho] at h <;> try (cases h; done)
  case append =>
    split at h
    · rename_i x y T U hx hts
      split at h
      · rename_i s b g z e u hti htu
        obtain ⟨_, _, _, hT⟩ := hE.tiok hti
        obtain ⟨_, _, _, hU⟩ := hE.tiok htu
        have fin : ∀ te, E.ti e = some te → NoInt P U → (fr.evV x fun x => fr.evV y fun y => (pAp σ te.size te.bytes x y).bind fun r => k (some (.val r.1)) fr.regs r.2) = some res → o.wp P a w next Q := by
          intro te hte hno h
          obtain ⟨_, _, _, hTe⟩ := hE.tiok hte
          obtain ⟨v, h, hv⟩ := evV_rel hr h
          obtain ⟨v2, h, hv2⟩ := evV_rel hr h
          obtain ⟨r, hr1, h⟩ := bind_some h
          obtain ⟨v', w', π', r1, r2, r3⟩ := run_append_lg (P := P) (ty := o.type) hr hT rfl hTe hno hv hv2 hr1
          refine goes_value hn ?_ (.val _ _ r2) h r3
          have hts' : ts = #[T, U] := by rw [← Array.toArray_toList (xs := ts), hts]
          rw [base (args' := [a.eval x, a.eval y]) (by rw [hx]; rfl), hts']
          exact lookv _ r1
        split at h
        · rename_i te e1 hte hsh; exact fin te hte (noInt_of hE hq hc hr hn hU (.inl ⟨_, hsh⟩)) h
        · rename_i te hte hsh; exact fin te hte (noInt_of hE hq hc hr hn hU (.inr hsh)) h
        · cases h
      · cases h
    · cases h
  case cap =>
    split at h
    · rename_i x T hx hts
      split at h
      · rename_i s b g z e hti
        obtain ⟨_, _, _, hT⟩ := hE.tiok hti
        have hu : P.underlying T = some (.slice e) := by rw [hT.und, shape_slice hT.shape]
        obtain ⟨v, h1, hv⟩ := evV_rel hr h
        obtain ⟨y, hy, hk1⟩ := bind_some h1
        clear h h1
        have hts' : ts = #[T] := by rw [← Array.toArray_toList (xs := ts), hts]
        generalize hax : a.eval x = ax at hv
        unfold pCap at hy
        split at hy
        · cases hy; cases hv
          refine goes_plain hr hn ?_ (.val _ _ (.int _ _)) hk1
          rw [base (args' := [a.eval x]) (by rw [hx]; rfl), hts', hax]
          exact lookv _ (by simp [Builtin.cap_, run_underlying hu, goInt])
        · split at hy
          · rename_i hex
            cases hy
            cases hv with
            | slc b o1 n c z o' c' eT hk h1 h2 h3 h4 h5 =>
              refine goes_plain hr hn (v := .int .i64 (c' : Nat)) ?_ (by rw [← h3 hex]; exact .val _ _ (.int _ _)) hk1
              rw [base (args' := [a.eval x]) (by rw [hx]; rfl), hts', hax]
              exact lookv _ (by simp [Builtin.cap_, run_underlying hu, goInt])
          · cases hy
        · cases hy
      · cases h
    · cases h
  case len =>
    split at h
    · rename_i x T hx hts
      have hts' : ts = #[T] := by rw [← Array.toArray_toList (xs := ts), hts]
      split at h
      · rename_i s b g z e hti
        obtain ⟨_, _, _, hT⟩ := hE.tiok hti
        have hu : P.underlying T = some (.slice e) := by rw [hT.und, shape_slice hT.shape]
        obtain ⟨v, h1, hv⟩ := evV_rel hr h
        obtain ⟨y, hy, hk1⟩ := bind_some h1
        clear h h1
        generalize hax : a.eval x = ax at hv
        unfold pLen at hy
        split at hy
        · cases hy
          cases hv <;> refine goes_plain hr hn ?_ (.val _ _ (.int _ _)) hk1
          all_goals (rw [base (args' := [a.eval x]) (by rw [hx]; rfl), hts', hax]; exact lookv _ (by simp [Builtin.len_, run_underlying hu, goInt]))
        · cases hy
      · rename_i s b g z hti
        obtain ⟨_, _, _, hT⟩ := hE.tiok hti
        have hu : P.underlying T = some .string := by rw [hT.und, shape_str hT.shape]
        obtain ⟨v, h1, hv⟩ := evV_rel hr h
        obtain ⟨y, hy, hk1⟩ := bind_some h1
        clear h h1
        generalize hax : a.eval x = ax at hv
        unfold pLs at hy
        split at hy
        · cases hy; cases hv
          refine goes_plain hr hn ?_ (.val _ _ (.int _ _)) hk1
          rw [base (args' := [a.eval x]) (by rw [hx]; rfl), hts', hax]
          exact lookv _ (by simp [Builtin.len_, run_underlying hu, goInt])
        · cases hy
      · cases h
    · cases h
  case copy =>
    split at h
    · rename_i x y T rest hx hts
      split at h
      · rename_i s b g z e hti
        obtain ⟨_, _, _, hT⟩ := hE.tiok hti
        split at h
        · rename_i te hte
          obtain ⟨_, _, _, hTe⟩ := hE.tiok hte
          obtain ⟨v, h, hv⟩ := evV_rel hr h
          obtain ⟨v2, h, hv2⟩ := evV_rel hr h
          obtain ⟨r, hr1, h⟩ := bind_some h
          obtain ⟨v', w', r1, r2, r3⟩ := run_copy_lg (P := P) (ty := o.type) (ts := rest) hr hT rfl hTe hv hv2 hr1
          refine goes_value hn ?_ (.val _ _ r2) h r3
          have hts' : ts = (T :: rest).toArray := by rw [← Array.toArray_toList (xs := ts), hts]
          rw [base (args' := [a.eval x, a.eval y]) (by rw [hx]; rfl), hts']
          exact lookv _ r1
        · cases h
      · cases h
    · cases h
  case clear =>
    split at h
    · rename_i x T hx hts
      split at h
      · rename_i s b g z e hti
        obtain ⟨_, _, _, hT⟩ := hE.tiok hti
        split at h
        · rename_i te hte
          obtain ⟨_, _, _, hTe⟩ := hE.tiok hte
          obtain ⟨v, h, hv⟩ := evV_rel hr h
          obtain ⟨r, hr1, h⟩ := bind_some h
          obtain ⟨w', r1, r3⟩ := run_clear_lg (P := P) (ty := o.type) hr hT rfl hTe hv hr1
          refine goes_value hn ?_ (.tup [] #[] .nil) h r3
          have hts' : ts = #[T] := by rw [← Array.toArray_toList (xs := ts), hts]
          rw [base (args' := [a.eval x]) (by rw [hx]; rfl), hts']
          exact lookv _ r1
        · cases h
      · cases h
    · cases h
  case min =>
    split at h
    · rename_i x y hx
      obtain ⟨v, h, hv⟩ := evV_rel hr h
      obtain ⟨v2, h, hv2⟩ := evV_rel hr h
      obtain ⟨r, hr1, h⟩ := bind_some h
      generalize hax : a.eval x = ax at hv
      generalize hay : a.eval y = ay at hv2
      unfold pMin at hr1
      split at hr1
      · split at hr1
        · cases hr1; cases hv; cases hv2
          refine goes_plain hr hn ?_ (.val _ _ (.int _ _)) h
          rw [base (args' := [a.eval x, a.eval y]) (by rw [hx]; rfl), hax, hay]
          exact lookv _ (by simp [Builtin.min_, Builtin.min2])
        · cases hr1
      · cases hr1
    · cases h
  case max =>
    split at h
    · rename_i x y hx
      obtain ⟨v, h, hv⟩ := evV_rel hr h
      obtain ⟨v2, h, hv2⟩ := evV_rel hr h
      obtain ⟨r, hr1, h⟩ := bind_some h
      generalize hax : a.eval x = ax at hv
      generalize hay : a.eval y = ay at hv2
      unfold pMax at hr1
      split at hr1
      · split at hr1
        · cases hr1; cases hv; cases hv2
          refine goes_plain hr hn ?_ (.val _ _ (.int _ _)) h
          rw [base (args' := [a.eval x, a.eval y]) (by rw [hx]; rfl), hax, hay]
          exact lookv _ (by simp [Builtin.max_, Builtin.max2])
        · cases hr1
      · cases hr1
    · cases h

theorem op_sound (h : opC E call f o fr σ k = some res) : o.wp P a w next Q := by
  cases ho : o.op with
  | move x =>
    simp only [opC, ho] at h
    obtain ⟨y, h, hy⟩ := ev_rel hr h
    exact goes_plain hr hn (by simp only [execOp, ho]; rfl) hy h
  | assign x =>
    simp only [opC, ho] at h
    obtain ⟨y, h, hy⟩ := ev_rel hr h
    exact goes_plain hr hn (by simp only [execOp, ho]; rfl) hy h
  | pick c x y => exact op_pick hE hq hc hr hn ho h
  | alloc T => exact op_alloc hE hr hn ho h
  | box T x => exact op_box hr hn ho h
  | load T x => exact op_load hE hr hn ho h
  | store T x y => exact op_store hE hr hn ho h
  | fieldAddr T x i => exact op_fieldAddr hE hq hc hr hn ho h
  | field T x i => exact op_field hE hq hc hr hn ho h
  | indexAddr T x i => exact op_indexAddr hE hq hc hr hn ho h
  | index T x i => exact op_index hE hq hc hr hn ho h
  | nilCheck x => exact op_nilCheck hE hq hc hr hn ho h
  | binOp op T x y T' => exact op_binOp hE hq hc hr hn ho h
  | unOp op T x => exact op_unOp hE hq hc hr hn ho h
  | convert S T x => exact op_convert hE hq hc hr hn ho h
  | makeFunc fn xs ys => exact op_makeFunc hE hq hc hr hn ho h
  | makeSlice T x y => exact op_makeSlice hE hq hc hr hn ho h
  | slice T x lo hi mx => exact op_slice hE hq hc hr hn ho h
  | build T ps => exact op_build hE hq hc hr hn ho h
  | buildSlice T n ps => exact op_buildSlice hE hq hc hr hn ho h
  | extract x i => exact op_extract hE hq hc hr hn ho h
  | call c =>
    obtain ⟨cal, xs, ts⟩ := c
    cases cal with
    | value g => exact op_callV hE hq hc hr hn ho h
    | builtin b => exact op_builtin hE hq hc hr hn ho h
    | invoke r m => simp [opC, ho] at h
  | _ => simp [opC, ho] at h
end
end Go.Lg
