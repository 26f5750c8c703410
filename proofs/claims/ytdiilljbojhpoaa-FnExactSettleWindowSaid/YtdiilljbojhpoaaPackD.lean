/- Values that bear what they lead to: appends, copies, texts. -/
import Derived.Test.YtdiilljbojhpoaaPackC
import Derived.Test.YtdiilljbojhpoaaPackB
namespace Go.Lg.Pv
open Go Go.Lg
set_option linter.unusedVariables false
set_option linter.unnecessarySimpa false
set_option linter.unusedSimpArgs false
set_option linter.unusedSectionVars false

mutual
theorem flat_cells : ∀ (e : DV), flat e = true → flatL (cellsD e) = true
  | .agg l, h => by simpa [cellsD, flat] using h
  | .int .., _ => by simp [cellsD, flatL, flat]
  | .bool _, _ => by simp [cellsD, flatL, flat]
  | .str _, _ => by simp [cellsD, flatL, flat]
  | .nilF, _ => by simp [cellsD, flatL, flat]
  | .nilI, _ => by simp [cellsD, flatL, flat]
  | .nilP, _ => by simp [cellsD, flatL, flat]
  | .nil, h => by simp [flat] at h
  | .e0 _, h => by simp [flat] at h
  | .sl .., h => by simp [flat] at h
  | .rp .., h => by simp [flat] at h
  | .fn .., h => by simp [flat] at h
  | .own .., h => by simp [flat] at h
  | .ptr .., h => by simp [flat] at h
  | .dead, h => by simp [flat] at h
end
theorem flatL_mem : ∀ {l : List DV}, flatL l = true → ∀ e ∈ l, flat e = true
  | [], _, e, he => by cases he
  | a :: l, h, e, he => by
    simp only [flatL, Bool.and_eq_true] at h
    cases he with
    | head => exact h.1
    | tail _ he => exact flatL_mem h.2 e he
/-- plain cells lead nowhere -/
theorem flat_rv {σ : LH} {v : DV} {x : Value} {F : List Nat} (h : RV σ v x F) : flat v = true → F = [] := by
  refine RV.rec (motive_1 := fun v x F _ => flat v = true → F = []) (motive_2 := fun l l' F _ => flatL l = true → F = []) ?_ ?_ ?_ ?_ ?_ ?_ ?_ ?_ ?_ ?_ ?_ ?_ ?_ ?_ ?_ ?_ ?_ ?_ h
  all_goals try (intros; rfl)
  · intro sh l b o c blk Fs _ _ _ _ _ _ h; simp [flat] at h
  · intro e off b o blk F _ _ _ _ h; simp [flat] at h
  · intro f a b a' b' F G _ _ _ _ h; simp [flat] at h
  · intro l l' F _ ih h; exact ih (by simpa [flat] using h)
  · intro v x F l l' G _ _ ih1 ih2 h
    simp only [flatL, Bool.and_eq_true] at h
    rw [ih1 h.1, ih2 h.2]; rfl
theorem flat_cvs_tvs {S : St} {op : Bool} {cs : List DV} {cs' : List Value} {F : List Nat} (h : CVs S op cs cs' F) (hf : flatL cs = true) : TVs S cs cs' := by
  induction cs generalizing cs' F with
  | nil => cases h; exact .nil
  | cons v l ih =>
    simp only [flatL, Bool.and_eq_true] at hf
    cases h with
    | cons h1 h2 =>
      refine .cons ?_ (ih h2 hf.2)
      cases h1 with
      | rv _ h => exact h.tv fun b hb => by rw [flat_rv h hf.1] at hb; cases hb
      | tv _ h => exact h
theorem flat_rvs {S : St} {op : Bool} {v : DV} {x : Value} (h : TV S v x) : flat v = true → ∃ F, RV S.σ v x F ∧ F = [] := by
  refine TV.rec (motive_1 := fun v x _ => flat v = true → ∃ F, RV S.σ v x F ∧ F = []) (motive_2 := fun l l' _ => flatL l = true → ∃ F, RVs S.σ l l' F ∧ F = []) ?_ ?_ ?_ ?_ ?_ ?_ ?_ ?_ ?_ ?_ ?_ ?_ ?_ ?_ ?_ ?_ ?_ ?_ ?_ ?_ h
  · exact fun k n _ => ⟨[], .int k n, rfl⟩
  · exact fun b _ => ⟨[], .bool b, rfl⟩
  · exact fun s _ => ⟨[], .str s, rfl⟩
  · exact fun _ => ⟨[], .nilF, rfl⟩
  · exact fun _ => ⟨[], .nilI, rfl⟩
  · exact fun _ => ⟨[], .nilP, rfl⟩
  · intro hc; simp [flat] at hc
  · intro z hc; simp [flat] at hc
  · intro z b o hc; simp [flat] at hc
  · intro v h hc; simp [flat] at hc
  · intro sh hc; simp [flat] at hc
  · intro sh b o hc; simp [flat] at hc
  · intro sh l b o c blk h0 h1 h2 h3 h3' h4 ih hc; simp [flat] at hc
  · intro e off b o blk h0 h1 h2 h3 ih hc; simp [flat] at hc
  · intro f a b a' b' h1 h2 ih1 ih2 hc; simp [flat] at hc
  · intro l l' h ih hc
    obtain ⟨F, g1, g2⟩ := ih (by simpa [flat] using hc)
    exact ⟨F, .agg l l' F g1, g2⟩
  · intro id ver o n c xx _ h1 h2 h3 hc; simp [flat] at hc
  · intro id ver i off _ h1 h2 h3 hc; simp [flat] at hc
  · exact fun _ => ⟨[], .nil, rfl⟩
  · intro v x l l' h1 h2 ih1 ih2 hc
    simp only [flatL, Bool.and_eq_true] at hc
    obtain ⟨F, g1, rfl⟩ := ih1 hc.1
    obtain ⟨G, e1, rfl⟩ := ih2 hc.2
    exact ⟨[] ++ [], .cons g1 e1, rfl⟩
theorem flat_tvs_cvs {S : St} {cs : List DV} {cs' : List Value} (h : TVs S cs cs') (hf : flatL cs = true) : CVs S false cs cs' [] := by
  obtain ⟨F, h1, rfl⟩ := flat_rvs (op := false) (.agg _ _ h) (show flat (.agg cs) = true by simpa [flat] using hf)
  cases h1 with | agg _ _ _ h1 => exact RVs.cvs h1

/-- elements that a slice shows, as the heap has them -/
def ElR (S : St) (size : Nat) (l : List DV) (cs : List Value) : Prop := cs.length = l.length * size ∧ ∀ i e, l[i]? = some e → TVs S (cellsD e) (cellsAt cs size i)

theorem part_at {l : List Value} {o z n i : Nat} (hi : i < n) : cellsAt ((l.drop o).take (n * z)) z i = cellsAt (l.drop o) z i := Lg.cellsAt_take hi

theorem lenV_str (s : ByteArray) (n : Nat) (h : n = s.size) : lenV (.string s) = some n := by rw [h]; rfl
theorem elsOf_sim {S : St} (hS : HOk S) {size : Nat} {x : DV} {l : List DV} {x' : Value} (h : elsOf S.μ size x = some l) (hx : TV S x x') :
    lenV x' = some l.length ∧ ∃ cs, cellsOf S.σ size l.length x' = some cs ∧ ElR S size l cs := by
  have e0 : ElR S size [] [] := ⟨by simp, fun i e h => by simp at h⟩
  cases x <;> try (simp only [elsOf, reduceCtorEq] at h; done)
  · rename_i s
    simp only [elsOf] at h
    split at h
    · rename_i hz
      cases h
      subst hz
      rw [hx.str_inv]
      have hlen : s.data.toList.length = s.size := Array.length_toList
      refine ⟨lenV_str _ _ (by rw [List.length_map, hlen]), s.data.toList.map fun b => .int .u8 b.toNat, ?_, by simp, fun i e he => ?_⟩
      · simp only [cellsOf, List.length_map, hlen]
        rw [if_pos ⟨Nat.le_refl _, trivial⟩, List.take_of_length_le (by omega)]
      · rw [List.getElem?_map] at he
        obtain ⟨b, hb, rfl⟩ := Option.map_eq_some_iff.1 he
        obtain ⟨hlt, rfl⟩ := List.getElem?_eq_some_iff.1 hb
        have : cellsAt (s.data.toList.map fun b => Value.int .u8 b.toNat) 1 i = [.int .u8 (s.data.toList[i]).toNat] := by
          unfold cellsAt
          rw [Nat.mul_one, List.drop_eq_getElem_cons (by simpa using hlt)]
          simp only [List.getElem_map, List.take_succ_cons, List.take_zero]
        rw [this]
        exact .cons (.int _ _) .nil
    · cases h
  · simp only [elsOf, Option.some.injEq] at h; subst h
    rw [hx.nil_inv]; exact ⟨rfl, [], by simp [cellsOf], e0⟩
  · simp only [elsOf, Option.some.injEq] at h; subst h
    rcases hx.e0_inv with rfl | ⟨b, o, rfl⟩
    · exact ⟨rfl, [], by simp [cellsOf], e0⟩
    · exact ⟨rfl, [], by simp [cellsOf], e0⟩
  · rename_i sh l0
    simp only [elsOf] at h
    split at h
    · rename_i hz
      obtain rfl : l0 = l := Option.some.inj h
      subst hz
      rcases hx.sl_inv with ⟨rfl, rfl | ⟨b, o, rfl⟩⟩ | ⟨b, o, c, blk, rfl, h0, h1, h2, h3, h3', h4⟩
      · exact ⟨rfl, [], by simp [cellsOf], e0⟩
      · exact ⟨rfl, [], by simp [cellsOf], e0⟩
      · refine ⟨rfl, ?_⟩
        by_cases hn : l0.length = 0
        · have : l0 = [] := List.eq_nil_of_length_eq_zero hn
          subst this
          exact ⟨[], by simp [cellsOf], e0⟩
        · refine ⟨(blk.cells.drop o).take (l0.length * sh.length), by simp only [cellsOf]; rw [if_neg hn]; simp only [h1]; rw [if_pos h3], by rw [List.length_take, List.length_drop]; omega, fun i e he => ?_⟩
          rw [part_at (List.getElem?_eq_some_iff.1 he).1]; exact h4 i e he
    · cases h
  · rename_i id ver o n c xx
    simp only [elsOf] at h
    obtain ⟨blk, hb, g⟩ := Option.bind_eq_some_iff.1 h
    clear h
    split at g
    · rename_i hc
      obtain ⟨hz, hc⟩ := hc
      cases g
      subst hz
      rcases own_part hS hb (hx.own_inv.2.2 blk hb) with ⟨rfl, he, hv⟩ | ⟨b, lo, lb, Fs, cc, rfl, g0, g1, g2, g3, g4, g5, g6, g7, g8, g9, g9', g10, g11, g12⟩
      · rw [he]
        rcases hv with rfl | ⟨b', o', rfl⟩
        · exact ⟨rfl, [], by simp [cellsOf], e0⟩
        · exact ⟨rfl, [], by simp [cellsOf], e0⟩
      · rw [g11]
        refine ⟨rfl, ?_⟩
        by_cases hn : n = 0
        · have : (blk.el.drop o).take n = [] := List.eq_nil_of_length_eq_zero (by omega)
          rw [this]
          exact ⟨[], by simp [cellsOf, hn], e0⟩
        · have hmul : o * blk.sh.length + n * blk.sh.length ≤ blk.el.length * blk.sh.length := by rw [← Nat.add_mul]; exact Nat.mul_le_mul_right _ (by omega)
          refine ⟨(lb.cells.drop (lo + o * blk.sh.length)).take (n * blk.sh.length), by simp only [cellsOf]; rw [if_neg hn]; simp only [g2]; rw [if_pos (by omega)], by rw [g11, List.length_take, List.length_drop]; omega, fun i e he => ?_⟩
          have hi := (List.getElem?_eq_some_iff.1 he).1
          rw [part_at (by omega)]
          have h12 := g12 i e he
          rcases hc with hc | hc | hc
          · exact h12.tvs (.inl hc)
          · exact flat_cvs_tvs h12 (flat_cells _ (flatL_mem hc e (List.mem_of_getElem? he)))
          · exact h12.tvs (.inr fun v hv => List.all_eq_true.1 (by have := List.all_eq_true.1 hc e (List.mem_of_getElem? he); exact this) v hv)
    · cases g

theorem putEs_sim {S : St} {op : Bool} {sh : List Sh} {l r : List DV} {cs : List Value} {size : Nat} (h : putEs op sh l = some r) (hl : ElR S size l cs) :
    r.length = l.length ∧ ∀ (i : Nat) e, r[i]? = some e → CVs S op (cellsD e) (cellsAt cs size i) [] := by
  unfold putEs at h
  cases op with
  | true =>
    simp only [cond_true, Option.some.injEq] at h; subst h
    exact ⟨rfl, fun i e he => (hl.2 i e he).cvs_op⟩
  | false =>
    simp only [cond_false] at h
    split at h
    · rename_i hf
      cases h
      exact ⟨rfl, fun i e he => flat_tvs_cvs (hl.2 i e he) (flat_cells _ (flatL_mem hf e (List.mem_of_getElem? he)))⟩
    · obtain ⟨h1, h2⟩ := closeEs_sim (S := S) h
      exact ⟨h1, fun i e he => h2 i e _ he fun x hx => hl.2 i x hx⟩

/-- rows put into a row -/
theorem cellsAt_overs {l vs : List Value} {lo z k m j : Nat} (hl : lo + k * z + m * z ≤ l.length) (hv : vs.length = m * z) : cellsAt ((over l (lo + k * z) vs).drop lo) z j = if k ≤ j ∧ j < k + m then cellsAt vs z (j - k) else cellsAt (l.drop lo) z j := by
  apply List.ext_getElem?
  intro q
  rw [cellsAt_get, List.getElem?_drop, over_get (by omega)]
  by_cases hq : q < z
  · by_cases hj : k ≤ j ∧ j < k + m
    · rw [if_pos hj, if_pos hq, cellsAt_get, if_pos hq]
      obtain ⟨d, rfl⟩ : ∃ d, j = k + d := ⟨j - k, by omega⟩
      have hd : (d + 1) * z ≤ m * z := Nat.mul_le_mul_right _ (by omega)
      rw [Nat.succ_mul] at hd
      have e1 : (k + d) * z = k * z + d * z := Nat.add_mul _ _ _
      rw [if_pos (by omega)]
      congr 1
      rw [show k + d - k = d by omega]; omega
    · rw [if_neg hj, if_pos hq, cellsAt_get, if_pos hq, List.getElem?_drop, if_neg]
      rintro ⟨h1, h2⟩
      rcases Nat.lt_or_ge j k with h | h
      · have : (j + 1) * z ≤ k * z := Nat.mul_le_mul_right _ h
        rw [Nat.succ_mul] at this; omega
      · have : (k + m) * z ≤ j * z := Nat.mul_le_mul_right _ (by omega)
        rw [Nat.add_mul] at this; omega
  · rw [if_neg hq]
    split
    · rw [cellsAt_get, if_neg hq]
    · rw [cellsAt_get, if_neg hq]

theorem overD_get {l vs : List DV} {o : Nat} (h : o + vs.length ≤ l.length) (j : Nat) : (overD l o vs)[j]? = if o ≤ j ∧ j < o + vs.length then vs[j - o]? else l[j]? := by
  unfold overD
  rw [List.append_assoc, List.getElem?_append]
  have hl : (l.take o).length = o := by simp; omega
  rw [hl]
  split
  · rw [if_neg (by omega), List.getElem?_take, if_pos (by assumption)]
  · rename_i h1
    rw [List.getElem?_append]
    split
    · rw [if_pos (by omega)]
    · rw [if_neg (by omega), List.getElem?_drop]; congr 1; omega

/-- elements written into a part of an own block -/
theorem wrEls_ok {S : St} (hS : HOk S) {id : Nat} {blk : PB} (hb : S.μ[id]? = some blk) (hl : blk.live = true) {b lo : Nat} {lb : Blk} {Fs : Nat → List Nat} (hι : S.ι id = some (b, lo)) (hm : S.σ.mem b = some lb) (hF : S.Fm id = b :: (List.range blk.el.length).flatMap Fs)
    (hfit : lo + blk.el.length * blk.sh.length ≤ lb.cells.length) (hc : ∀ i e, blk.el[i]? = some e → CVs S blk.op (cellsD e) (cellsAt (lb.cells.drop lo) blk.sh.length i) (Fs i))
    {k : Nat} {ns : List DV} {vs : List Value} (hk : k + ns.length ≤ blk.el.length) (hv : vs.length = ns.length * blk.sh.length) (hn : ∀ (i : Nat) e, ns[i]? = some e → CVs S blk.op (cellsD e) (cellsAt vs blk.sh.length i) []) :
    ∃ S', S'.μ = S.μ.set id { blk with el := overD blk.el k ns } ∧ S'.σ = S.σ.set b (some { lb with cells := over lb.cells (lo + k * blk.sh.length) vs }) ∧ HOk S' ∧ Later S S' := by
  have hmul : k * blk.sh.length + ns.length * blk.sh.length ≤ blk.el.length * blk.sh.length := by rw [← Nat.add_mul]; exact Nat.mul_le_mul_right _ hk
  have hw : lo + k * blk.sh.length + vs.length ≤ lb.cells.length := by omega
  refine wrEl_ok (Fs' := fun j => if k ≤ j ∧ j < k + ns.length then [] else Fs j) hS hb hl (overD_len hk) hι hm (over_length hw) hfit (fun j hj => by rw [over_get hw, if_neg (by omega)]) (fun i e he => ?_) ?_
  · rw [cellsAt_overs (m := ns.length) (by omega) hv]
    rw [overD_get hk] at he
    by_cases hi : k ≤ i ∧ i < k + ns.length
    · rw [if_pos hi] at he ⊢; rw [if_pos hi]; exact hn _ e he
    · rw [if_neg hi] at he ⊢; rw [if_neg hi]; exact hc i e he
  · rw [hF]
    refine (flatMap_len_sub fun j hj => ?_).cons_cons b
    split
    · exact List.nil_sublist _
    · exact List.Sublist.refl _
end Go.Lg.Pv
namespace Go.Lg.Pv
open Go Go.Lg
set_option linter.unusedVariables false
set_option linter.unnecessarySimpa false
set_option linter.unusedSimpArgs false
set_option linter.unusedSectionVars false

/-- of own blocks, only these may be written -/
def Tch (S S' : St) (l : List Nat) : Prop := ∀ id ver blk, bk S.μ id ver = some blk → (bk S'.μ id ver).isSome = true → id ∉ l → ∀ b lo, S.ι id = some (b, lo) → S'.σ.mem b = S.σ.mem b
theorem own_blk {S : St} (hS : HOk S) {id ver : Nat} {blk : PB} (h : bk S.μ id ver = some blk) {b lo : Nat} (hι : S.ι id = some (b, lo)) : b ∈ S.Fm id ∧ b < S.σ.next := by
  obtain ⟨k1, k2, k3⟩ := bk_some h
  have hB := hS.hb id blk k1 k2
  have hb : b ∈ S.Fm id := by
    generalize hF : S.Fm id = F at hB
    cases hB with
    | none q1 q2 => rw [q1] at hι; cases hι
    | some x1 x2 x3 x4 q1 q2 q3 q4 q5 => rw [q1] at hι; cases hι; exact .head _
  exact ⟨hb, hS.flt ⟨id, blk, k1, k2, hb⟩⟩
theorem Tch.of_low {S S' : St} (hS : HOk S) {l : List Nat} (h : ∀ k, k < S.σ.next → S'.σ.mem k = S.σ.mem k) : Tch S S' l := fun id ver blk hb _ _ b lo hι => h b (own_blk hS hb hι).2
theorem Tch.of_one {S S' : St} (hS : HOk S) {id0 ver0 : Nat} {blk0 : PB} (hb0 : bk S.μ id0 ver0 = some blk0) (h : ∀ k, k < S.σ.next → k ∉ S.Fm id0 → S'.σ.mem k = S.σ.mem k) {l : List Nat} (hl : id0 ∈ l) : Tch S S' l := fun id ver blk hb _ hn b lo hι => by
  obtain ⟨h1, h2⟩ := own_blk hS hb hι
  refine h b h2 fun hh => ?_
  obtain ⟨k1, k2, _⟩ := bk_some hb
  obtain ⟨j1, j2, _⟩ := bk_some hb0
  exact hS.dj id id0 blk blk0 k1 k2 j1 j2 (fun he => hn (by rw [he]; exact hl)) b h1 hh

theorem addO_own {S : St} {cells : List Value} {pb : PB} {n c : Nat} {x : Bool} {cc : Nat} {z : Nat} (hz : pb.sh.length = z) (hn : n ≤ c) (hc : c ≤ cc / 2) (hl : c ≤ pb.el.length) (hx : x = true → cc = 2 * c + 1) (hcap : cc / 2 * z ≤ cells.length) : TV (S.addO cells pb) (.own S.μ.length pb.ver 0 n c x) (.slice (some ⟨S.σ.next, 0, some z⟩) n cc) := by
  refine .own _ _ _ _ _ _ _ ⟨pb, get_app_self, Nat.le_refl _⟩ rfl fun blk hb => ?_
  have := (bk_some hb).1
  rw [show (S.addO cells pb).μ[S.μ.length]? = some pb from get_app_self] at this
  cases this
  subst hz
  exact .inr ⟨S.σ.next, 0, cc, by simp [St.addO], by simp, hn, hc, by simpa using hl, hx, by unfold lenOf; rw [show (S.addO cells pb).σ.mem S.σ.next = _ from push_self _ _]; simpa using hcap⟩

/-- a block told anew behind an append: it lies elsewhere, or is longer -/
theorem renew_ok {S : St} (hS : HOk S) {id ver : Nat} {blk : PB} (hb : bk S.μ id ver = some blk) (hw : blk.whole = true) {ver' : Nat} (hv : ver < ver') {el' : List DV} {σ' : LH} {b lo : Nat} {lb : Blk} {Fs : Nat → List Nat}
    (hnx : S.σ.next ≤ σ'.next) (hmd : MD σ') (hmem : ∀ k, k < S.σ.next → k ∉ S.Fm id → σ'.mem k = S.σ.mem k) (hm : σ'.mem b = some lb) (hlw : lb.wr = true) (hfit : lo + el'.length * blk.sh.length ≤ lb.cells.length)
    (hF : ∀ k ∈ b :: (List.range el'.length).flatMap Fs, k ∈ S.Fm id ∨ S.σ.next ≤ k) (hnd : (b :: (List.range el'.length).flatMap Fs).Nodup)
    (hkeep : ∀ k ∈ (List.range el'.length).flatMap Fs, σ'.mem k = S.σ.mem k ∧ k ∈ S.Fm id)
    (hc : ∀ i e, el'[i]? = some e → CVs S blk.op (cellsD e) (cellsAt (lb.cells.drop lo) blk.sh.length i) (Fs i)) {n : Nat} (hn : el'.length = n) {cc : Nat} (hcc : n ≤ cc / 2) (hcap : lo + cc / 2 * blk.sh.length ≤ lb.cells.length) :
    ∃ S', S'.μ = S.μ.set id ⟨ver', blk.sh, el', true, blk.op, true⟩ ∧ S'.σ = σ' ∧ HOk S' ∧ Later S S' ∧ TV S' (.own id ver' 0 n n false) (.slice (some ⟨b, lo, some blk.sh.length⟩) n cc) := by
  obtain ⟨b1, b2, b3⟩ := bk_some hb
  have hid := (List.getElem?_eq_some_iff.1 b1).1
  have key := one_ok (S' := { S with σ := σ', μ := S.μ.set id ⟨ver', blk.sh, el', true, blk.op, true⟩, ι := updN S.ι id (some (b, lo)), Fm := updN S.Fm id (b :: (List.range el'.length).flatMap Fs) }) (blk1 := ⟨ver', blk.sh, el', true, blk.op, true⟩)
    hS b1 b2 rfl rfl (fun j hj => updN_ne _ _ hj) (fun j hj => updN_ne _ _ hj) rfl hnx hmd hmem (.inl (by show blk.ver < ver'; omega)) (fun h => by rw [hw] at h; cases h) (fun k hk => hF k (by simpa using hk)) (by simpa using hnd) (fun k hk => by
      simp only [updN_same] at hk
      cases hk with
      | head => exact ⟨lb, hm, hlw⟩
      | tail _ hk =>
        obtain ⟨h1, h2⟩ := hkeep k hk
        obtain ⟨l2, h3, h4⟩ := hS.wr id blk b1 b2 k h2
        exact ⟨l2, by rw [h1]; exact h3, h4⟩) (fun ht => by
      simp only [updN_same]
      exact HB.some (S := { S with σ := σ', μ := S.μ.set id ⟨ver', blk.sh, el', true, blk.op, true⟩, ι := updN S.ι id (some (b, lo)), Fm := updN S.Fm id (b :: (List.range el'.length).flatMap Fs) }) (id := id) (blk := ⟨ver', blk.sh, el', true, blk.op, true⟩) b lo lb Fs (updN_same _ _ _) hm hlw hfit fun i e he =>
        (hc i e he).mono ht fun k hk => (hkeep k (List.mem_flatMap.2 ⟨i, List.mem_range.2 (List.getElem?_eq_some_iff.1 he).1, hk⟩)).1)
  refine ⟨_, rfl, rfl, key.1, key.2, .own _ _ _ _ _ _ _ ⟨⟨ver', blk.sh, el', true, blk.op, true⟩, by rw [List.getElem?_set_self hid], Nat.le_refl _⟩ rfl fun blk' hb' => ?_⟩
  have := (bk_some hb').1
  rw [show (S.μ.set id ⟨ver', blk.sh, el', true, blk.op, true⟩)[id]? = _ from List.getElem?_set_self hid] at this
  cases this
  exact .inr ⟨b, lo, cc, updN_same _ _ _, by simp, Nat.le_refl _, hcc, by simp [hn], nofun, by unfold lenOf; simp only [hm]; simpa using hcap⟩

theorem elR_append {S : St} {op : Bool} {a b : List DV} {xs ys : List Value} {z : Nat} {Fs : Nat → List Nat} (hx : xs.length = a.length * z) (h1 : ∀ (i : Nat) e, a[i]? = some e → CVs S op (cellsD e) (cellsAt xs z i) (Fs i)) (h2 : ∀ (i : Nat) e, b[i]? = some e → CVs S op (cellsD e) (cellsAt ys z i) []) :
    ∀ (i : Nat) e, (a ++ b)[i]? = some e → CVs S op (cellsD e) (cellsAt (xs ++ ys) z i) (if i < a.length then Fs i else []) := fun i e he => by
  by_cases h : i < a.length
  · rw [List.getElem?_append_left h] at he
    rw [cellsAt_left hx h, if_pos h]; exact h1 i e he
  · rw [List.getElem?_append_right (by omega)] at he
    rw [cellsAt_right hx (by omega), if_neg h]; exact h2 _ e he
theorem flatMap_if {n m : Nat} {f : Nat → List Nat} : (List.range (n + m)).flatMap (fun i => if i < n then f i else []) = (List.range n).flatMap f := by
  induction m with
  | zero => exact flatMap_congr fun i hi => if_pos (by omega)
  | succ m ih =>
    rw [show n + (m + 1) = (n + m) + 1 by omega, List.range_succ, List.flatMap_append, ih]
    simp; intro h; omega

theorem qAp_sim {S : St} (hS : HOk S) {opn : Bool} {sh : List Sh} {size bytes : Nat} {s x : DV} {r : DV × PH} {s' x' : Value} (h : qAp S.μ opn sh size bytes s x = some r) (hs : TV S s s') (hx : TV S x x') :
    ∃ S' v', S'.μ = r.2 ∧ pAp S.σ size bytes s' x' = some (v', S'.σ) ∧ TV S' r.1 v' ∧ HOk S' ∧ Later S S' ∧ Tch S S' (idsV s) := by
  unfold qAp at h
  split at h
  rotate_left
  · cases h
  rename_i hsz
  obtain ⟨news, hnews, h⟩ := Option.bind_eq_some_iff.1 h
  obtain ⟨hlen, cs, hcs, hEl⟩ := elsOf_sim hS hnews hx
  have hP : ∀ v, pAp S.σ size bytes v x' = (match v with
      | .slice none 0 0 => if news.length = 0 then some (.slice none 0 0, S.σ) else
          if news.length * bytes ≤ 140737488355328 ∧ 0 < bytes ∧ news.length ≤ 9223372036854775807 then some (.slice (some ⟨S.σ.next, 0, some size⟩) news.length (capL news.length), S.σ.push { cells := cs }) else none
      | .slice (some a) n c =>
          if n + news.length ≤ c / 2 then (if news.length = 0 then some (.slice (some a) n c, S.σ) else (S.σ.write a.block (a.off + n * size) cs).map fun σ => (.slice (some a) (n + news.length) c, σ))
          else
            (cellsOf S.σ size n (.slice (some a) n c)).bind fun olds =>
            if (n + news.length) * bytes ≤ 140737488355328 ∧ 0 < bytes ∧ n + news.length ≤ 9223372036854775807 then
              (if c % 2 = 1 then some (.slice (some ⟨S.σ.next, 0, some size⟩) (n + news.length) (capL (n + news.length)), S.σ.push { cells := olds ++ cs })
               else match S.σ.mem a.block with
                | some b => if b.wr = true ∧ a.spot = some size then some (.slice (some ⟨S.σ.next, 0, some size⟩) (n + news.length) (capL (n + news.length)), (S.σ.set a.block none).push { cells := olds ++ cs }) else none
                | none => none)
            else none
      | _ => none) := fun v => by
    unfold pAp
    rw [hlen, Option.bind_some, hcs, Option.bind_some]
    rfl
  have same : ∀ (v : DV) (v' : Value), TV S v v' → r = (v, S.μ) → pAp S.σ size bytes s' x' = some (v', S.σ) → ∃ S' v', S'.μ = r.2 ∧ pAp S.σ size bytes s' x' = some (v', S'.σ) ∧ TV S' r.1 v' ∧ HOk S' ∧ Later S S' ∧ Tch S S' (idsV s) := by
    rintro v v' hv rfl hp
    exact ⟨S, v', rfl, hp, hv, hS, Later.refl S, fun _ _ _ _ _ _ _ _ _ => rfl⟩
  -- a slice that has no room, and no elements
  have fresh : (s' = .slice none 0 0 ∨ ∃ b o, s' = .slice (some ⟨b, o, some size⟩) 0 1) → news.length ≠ 0 → ∀ ns, putEs opn sh news = some ns → news.length * bytes ≤ 140737488355328 ∧ 0 < bytes ∧ news.length ≤ 9223372036854775807 →
      r = (.own S.μ.length news.length 0 news.length news.length false, S.μ ++ [⟨news.length, sh, ns, true, opn, true⟩]) →
      ∃ S' v', S'.μ = r.2 ∧ pAp S.σ size bytes s' x' = some (v', S'.σ) ∧ TV S' r.1 v' ∧ HOk S' ∧ Later S S' ∧ Tch S S' (idsV s) := by
    intro hv hm ns hns hb hr
    subst hr
    obtain ⟨e1, e2⟩ := putEs_sim hns hEl
    obtain ⟨k1, k2⟩ := addO_ok (cells := cs) (pb := ⟨news.length, sh, ns, true, opn, true⟩) hS (by simp [e1, hsz, hEl.1]) (fun i e he => by simp only [hsz]; exact e2 i e he)
    refine ⟨S.addO cs ⟨news.length, sh, ns, true, opn, true⟩, .slice (some ⟨S.σ.next, 0, some size⟩) news.length (capL news.length), rfl, ?_, addO_own (pb := ⟨news.length, sh, ns, true, opn, true⟩) hsz (Nat.le_refl _) (by simp [capL]) (by simp [e1]) nofun (by simp [capL, hEl.1]), k1, k2, Tch.of_low hS fun k hk => push_mem _ _ hk⟩
    rw [hP]
    rcases hv with rfl | ⟨b, o, rfl⟩
    · simp only; rw [if_neg hm, if_pos hb]; rfl
    · simp only [cellsOf, if_true, Option.bind_some, Nat.zero_add, List.nil_append]
      rw [if_neg (by omega), if_pos hb]; rfl
  cases s with
  | nil =>
    simp only [cond_true] at h
    split at h
    · rename_i hm; cases h
      exact same _ _ hs rfl (by rw [hP, hs.nil_inv]; simp [hm])
    · rename_i hm
      obtain ⟨ns, hns, h⟩ := Option.bind_eq_some_iff.1 h
      split at h
      · rename_i hb; cases h
        exact fresh (.inl hs.nil_inv) hm ns hns hb rfl
      · cases h
  | e0 z =>
    simp only [cond_true] at h
    split at h
    · rename_i hm; cases h
      refine same _ _ hs rfl ?_
      rw [hP]
      rcases hs.e0_inv with rfl | ⟨b, o, rfl⟩ <;> simp [hm]
    · rename_i hm
      obtain ⟨ns, hns, h⟩ := Option.bind_eq_some_iff.1 h
      split at h
      · rename_i hb; cases h
        obtain ⟨e1, e2⟩ := putEs_sim hns hEl
        obtain ⟨k1, k2⟩ := addO_ok (cells := cs) (pb := ⟨news.length, sh, ns, true, opn, true⟩) hS (by simp [e1, hsz, hEl.1]) (fun i e he => by simp only [hsz]; exact e2 i e he)
        refine ⟨S.addO cs ⟨news.length, sh, ns, true, opn, true⟩, .slice (some ⟨S.σ.next, 0, some size⟩) news.length (capL news.length), rfl, ?_, addO_own (pb := ⟨news.length, sh, ns, true, opn, true⟩) hsz (Nat.le_refl _) (by simp [capL]) (by simp [e1]) nofun (by simp [capL, hEl.1]), k1, k2, Tch.of_low hS fun k hk => push_mem _ _ hk⟩
        rw [hP]
        rcases hs.e0_inv with rfl | ⟨b, o, rfl⟩
        · simp only; rw [if_neg hm, if_pos hb]; rfl
        · simp only [cellsOf, if_true, Option.bind_some, Nat.zero_add, List.nil_append]
          rw [if_neg (by omega), if_pos hb]; rfl
      · cases h
  | own id ver o n c xx =>
    simp only at h
    obtain ⟨blk, hb, g⟩ := Option.bind_eq_some_iff.1 h
    clear h
    split at g
    rotate_left
    · cases g
    rename_i hbz
    obtain ⟨b1, b2, b3⟩ := bk_some hb
    have hx2 := hs.own_inv.2.2 blk hb
    split at g
    · rename_i hm; cases g
      refine same _ _ hs rfl ?_
      rw [hP]
      rcases hx2 with ⟨rfl, rfl, rfl, rfl | ⟨b', o', rfl⟩⟩ | ⟨b, lo, cc, q1, rfl, q2, q3, q4, q5, q6⟩
      · simp [hm]
      · simp [hm]
      · simp only; rw [if_pos (by omega), if_pos hm]
    · rename_i hm
      obtain ⟨ns, hns, g⟩ := Option.bind_eq_some_iff.1 g
      obtain ⟨e1, e2⟩ := putEs_sim hns hEl
      have hop := own_part hS hb hx2
      split at g
      · -- in place
        rename_i hroom; cases g
        rcases hop with ⟨rfl, he, hv⟩ | ⟨b, lo, lb, Fs, cc, rfl, g0, g1, g2, g3, g4, g5, g6, g7, g8, g9, g9', g10, g11, g12⟩
        · rcases hx2 with ⟨_, _, rfl, _⟩ | ⟨b, lo, cc, q1, rfl, q2, q3, q4, q5, q6⟩
          · omega
          · rcases hv with hv | ⟨b', o', hv⟩
            · cases hv
            · cases hv; omega
        · obtain ⟨S', m1, m2, m3, m4⟩ := wrEls_ok (k := o + n) (ns := ns) (vs := cs) hS b1 b2 g1 g2 g4 g5 g10 (by rw [e1]; omega) (by rw [e1, hEl.1, hbz]) (fun i e he => by rw [hbz]; exact e2 i e he)
          have hmul : (o + n) * blk.sh.length + news.length * blk.sh.length ≤ blk.el.length * blk.sh.length := by rw [← Nat.add_mul]; exact Nat.mul_le_mul_right _ (by omega)
          have hoff : lo + o * blk.sh.length + n * size = lo + (o + n) * blk.sh.length := by rw [hbz, Nat.add_mul]; omega
          refine ⟨S', .slice (some ⟨b, lo + o * blk.sh.length, some blk.sh.length⟩) (n + news.length) cc, m1, ?_, ?_, m3, m4, Tch.of_one hS hb (fun k _ hk => by rw [m2]; exact set_mem _ _ _ _ fun he => hk (by rw [he, g4]; exact .head _)) (by simp [idsV])⟩
          · rw [hP]; simp only
            rw [if_pos (by omega), if_neg hm, hoff, write_eq g2 g3 (by rw [hEl.1, ← hbz]; omega), m2]; rfl
          · obtain ⟨h1, h2, h3⟩ := hs.own_inv
            have h4 := TV.later m4 hS hs
            obtain ⟨k1, k2, k3⟩ := h4.own_inv
            refine .own _ _ _ _ _ _ _ k1 rfl fun blk' hb' => ?_
            obtain ⟨q1, q2, q3⟩ := bk_some hb'
            have hid := (List.getElem?_eq_some_iff.1 b1).1
            rw [m1, List.getElem?_set_self hid] at q1
            cases q1
            have hb'' := k3 _ hb'
            rcases hb'' with ⟨rfl, rfl, rfl, _⟩ | ⟨b', lo', cc', r1, r2, r3, r4, r5, r6, r7⟩
            · omega
            · obtain ⟨ra, _, rc⟩ := Value.slice.inj r2
              exact .inr ⟨b', lo', cc', r1, by rw [ra, rc], by omega, r4, r5, r6, r7⟩
      · rename_i hroom
        split at g
        rotate_left
        · cases g
        rename_i hbd
        have hol : overD [] 0 [] = ([] : List DV) := rfl
        split at g
        · -- just so much room: a copy
          rename_i hxx
          split at g
          rotate_left
          · cases g
          rename_i hflat
          cases g
          rcases hop with ⟨rfl, he, hv⟩ | ⟨b, lo, lb, Fs, cc, rfl, g0, g1, g2, g3, g4, g5, g6, g7, g8, g9, g9', g10, g11, g12⟩
          · rw [he]
            simp only [List.nil_append, Nat.zero_add] at hbd ⊢
            obtain ⟨k1, k2⟩ := addO_ok (cells := cs) (pb := ⟨news.length, blk.sh, ns, true, blk.op, true⟩) hS (by simp [e1, hbz, hEl.1]) (fun i e he => by simp only [hbz]; exact e2 i e he)
            refine ⟨S.addO cs ⟨news.length, blk.sh, ns, true, blk.op, true⟩, .slice (some ⟨S.σ.next, 0, some size⟩) news.length (capL news.length), rfl, ?_, addO_own (pb := ⟨news.length, blk.sh, ns, true, blk.op, true⟩) hbz (Nat.le_refl _) (by simp [capL]) (by simp [e1]) nofun (by simp [capL, hEl.1]), k1, k2, Tch.of_low hS fun k hk => push_mem _ _ hk⟩
            rw [hP]
            rcases hv with rfl | ⟨b', o', rfl⟩
            · simp only; rw [if_neg hm, if_pos hbd]; rfl
            · simp only [cellsOf, if_true, Option.bind_some, Nat.zero_add, List.nil_append]
              rw [if_neg (by omega), if_pos hbd]; rfl
          · have hcc := g9 hxx
            subst hcc
            have hmul : o * blk.sh.length + n * blk.sh.length ≤ blk.el.length * blk.sh.length := by rw [← Nat.add_mul]; exact Nat.mul_le_mul_right _ (by omega)
            generalize holds : (lb.cells.drop (lo + o * blk.sh.length)).take (n * blk.sh.length) = olds
            have hol1 : olds.length = n * blk.sh.length := by rw [← holds, List.length_take, List.length_drop]; omega
            have hcof : cellsOf S.σ size n (.slice (some ⟨b, lo + o * blk.sh.length, some blk.sh.length⟩) n (2 * c + 1)) = some olds := by
              simp only [cellsOf]
              by_cases h0 : n = 0
              · rw [if_pos h0]; subst h0; rw [Nat.zero_mul] at hol1; rw [List.eq_nil_of_length_eq_zero hol1]
              · rw [if_neg h0]; simp only [g2]; rw [if_pos (by rw [← hbz]; omega), ← hbz, holds]
            have hrel := elR_append (S := S) (op := blk.op) (Fs := fun _ => []) (a := (blk.el.drop o).take n) (b := ns) (xs := olds) (ys := cs) (z := blk.sh.length) (by rw [g11, hol1]) (fun i e he => by
              have hi := (List.getElem?_eq_some_iff.1 he).1
              rw [← holds, part_at (by omega)]
              have h12 := g12 i e he
              rcases hflat with hf | hf
              · rw [hf] at h12 ⊢; exact (h12.tvs (.inl rfl)).cvs_op
              · have hfe := flat_cells _ (flatL_mem hf e (List.mem_of_getElem? he))
                have := flat_cvs_tvs h12 hfe
                cases hopb : blk.op with
                | true => exact this.cvs_op
                | false => exact flat_tvs_cvs this hfe) (fun i e he => by rw [hbz]; exact e2 i e he)
            obtain ⟨k1, k2⟩ := addO_ok (cells := olds ++ cs) (pb := ⟨news.length, blk.sh, (blk.el.drop o).take n ++ ns, true, blk.op, true⟩) hS (by simp only [List.length_append, g11, e1, hol1, hEl.1, hbz, Nat.add_mul]; exact Nat.le_refl _) (fun i e he => by
              have := hrel i e he
              simpa using this)
            refine ⟨S.addO (olds ++ cs) ⟨news.length, blk.sh, (blk.el.drop o).take n ++ ns, true, blk.op, true⟩, .slice (some ⟨S.σ.next, 0, some size⟩) (n + news.length) (capL (n + news.length)), rfl, ?_, addO_own (pb := ⟨news.length, blk.sh, (blk.el.drop o).take n ++ ns, true, blk.op, true⟩) hbz (Nat.le_refl _) (by simp [capL]) (by simp only [List.length_append, g11, e1]; exact Nat.le_refl _) nofun (by rw [List.length_append, hol1, hEl.1, hbz, ← Nat.add_mul]; simp [capL]), k1, k2, Tch.of_low hS fun k hk => push_mem _ _ hk⟩
            rw [hP]; simp only
            rw [if_neg (by omega), hcof]
            simp only [Option.bind_some]
            rw [if_pos hbd, if_pos (by omega)]; rfl
        · split at g
          rotate_left
          · cases g
          rename_i hw
          cases g
          have hver : ver < ver + news.length := by omega
          rcases hop with ⟨rfl, he, hv⟩ | ⟨b, lo, lb, Fs, cc, rfl, g0, g1, g2, g3, g4, g5, g6, g7, g8, g9, g9', g10, g11, g12⟩
          · rw [he]
            simp only [List.nil_append, Nat.zero_add] at hbd ⊢
            obtain ⟨S', m1, m2, m3, m4, m5⟩ := renew_ok (el' := ns) (σ' := S.σ.push { cells := cs }) (b := S.σ.next) (lo := 0) (lb := { cells := cs }) (Fs := fun _ => []) (n := news.length) (cc := capL news.length) hS hb hw hver (Nat.le_succ _) (push_md hS.md _) (fun k hk _ => push_mem _ _ hk) (push_self _ _) rfl (by simp [e1, hbz, hEl.1])
              (fun k hk => by rw [flatMap_nil] at hk; simp at hk; subst hk; exact .inr (Nat.le_refl _)) (by rw [flatMap_nil]; simp) (fun k hk => by rw [flatMap_nil] at hk; cases hk) (fun i e he => by simp only [List.drop_zero, hbz]; exact e2 i e he) e1 (by simp [capL]) (by simp [capL, hEl.1, hbz])
            refine ⟨S', .slice (some ⟨S.σ.next, 0, some size⟩) news.length (capL news.length), m1, ?_, by rw [hbz] at m5; exact m5, m3, m4, Tch.of_low hS fun k hk => by rw [m2]; exact push_mem _ _ hk⟩
            rw [hP, m2]
            rcases hv with rfl | ⟨b', o', rfl⟩
            · simp only; rw [if_neg hm, if_pos hbd]
            · simp only [cellsOf, if_true, Option.bind_some, Nat.zero_add, List.nil_append]
              rw [if_neg (by omega), if_pos hbd]
          · have hmul : o * blk.sh.length + n * blk.sh.length ≤ blk.el.length * blk.sh.length := by rw [← Nat.add_mul]; exact Nat.mul_le_mul_right _ (by omega)
            generalize holds : (lb.cells.drop (lo + o * blk.sh.length)).take (n * blk.sh.length) = olds
            have hol1 : olds.length = n * blk.sh.length := by rw [← holds, List.length_take, List.length_drop]; omega
            have hcof : cellsOf S.σ size n (.slice (some ⟨b, lo + o * blk.sh.length, some blk.sh.length⟩) n cc) = some olds := by
              simp only [cellsOf]
              by_cases h0 : n = 0
              · rw [if_pos h0]; subst h0; rw [Nat.zero_mul] at hol1; rw [List.eq_nil_of_length_eq_zero hol1]
              · rw [if_neg h0]; simp only [g2]; rw [if_pos (by rw [← hbz]; omega), ← hbz, holds]
            have hnd := hS.nd id blk b1 b2
            rw [g4] at hnd
            have hsub : (b :: (List.range n).flatMap fun i => Fs (o + i)).Sublist (b :: (List.range blk.el.length).flatMap Fs) := (flatMap_part (by omega) Fs).cons_cons b
            have hnd2 := hnd.sublist hsub
            have hlen2 : ((blk.el.drop o).take n ++ ns).length = n + news.length := by rw [List.length_append, g11, e1]
            have hfm : (List.range ((blk.el.drop o).take n ++ ns).length).flatMap (fun i => if i < n then Fs (o + i) else []) = (List.range n).flatMap fun i => Fs (o + i) := by
              rw [hlen2]; exact flatMap_if
            have hinF : ∀ k ∈ (List.range n).flatMap (fun i => Fs (o + i)), k ∈ S.Fm id ∧ k ≠ b := fun k hk => by
              refine ⟨by rw [g4]; exact hsub.subset (.tail _ hk), fun he => ?_⟩
              subst he; exact (List.nodup_cons.1 hnd2).1 hk
            by_cases hin : n + news.length ≤ cc / 2
            · -- it is written in place, where nobody looks
              have hfit2 : lo + o * blk.sh.length + n * size + cs.length ≤ lb.cells.length := by
                have : n * blk.sh.length + news.length * blk.sh.length ≤ cc / 2 * blk.sh.length := by rw [← Nat.add_mul]; exact Nat.mul_le_mul_right _ hin
                rw [hEl.1, ← hbz]; omega
              · have hcells : ∀ (i : Nat) e, ((blk.el.drop o).take n ++ ns)[i]? = some e → CVs S blk.op (cellsD e) (cellsAt ((over lb.cells (lo + o * blk.sh.length + n * blk.sh.length) cs).drop (lo + o * blk.sh.length)) blk.sh.length i) (if i < n then Fs (o + i) else []) := fun i e he => by
                  have := cellsAt_overs (l := lb.cells) (vs := cs) (lo := lo + o * blk.sh.length) (z := blk.sh.length) (k := n) (m := news.length) (j := i) (by rw [← hbz, hEl.1, ← hbz] at hfit2; omega) (by rw [hEl.1, hbz])
                  rw [this]
                  by_cases hi : i < n
                  · rw [List.getElem?_append_left (by rw [g11]; exact hi)] at he
                    rw [if_neg (by omega), if_pos hi]; exact g12 i e he
                  · rw [List.getElem?_append_right (by rw [g11]; omega), g11] at he
                    have hi2 := (List.getElem?_eq_some_iff.1 he).1
                    rw [if_pos (by omega), if_neg hi, hbz]; exact e2 _ e he
                have hoff : lo + o * blk.sh.length + n * size = lo + o * blk.sh.length + n * blk.sh.length := by rw [hbz]
                obtain ⟨S', m1, m2, m3, m4, m5⟩ := renew_ok (el' := (blk.el.drop o).take n ++ ns) (σ' := S.σ.set b (some { lb with cells := over lb.cells (lo + o * blk.sh.length + n * blk.sh.length) cs })) (b := b) (lo := lo + o * blk.sh.length) (lb := { lb with cells := over lb.cells (lo + o * blk.sh.length + n * blk.sh.length) cs })
                  (Fs := fun i => if i < n then Fs (o + i) else []) (n := n + news.length) (cc := cc) hS hb hw hver (Nat.le_refl _) (hS.md.set g2 _) (fun k _ hk => set_mem _ _ _ _ fun he => hk (by rw [he, g4]; exact .head _)) (set_self _ _ _) g3 (by
                    simp only; rw [over_length (by rw [← hbz] at hfit2; rw [hEl.1, ← hbz] at hfit2 ⊢; omega), hlen2, Nat.add_mul]; rw [hEl.1, ← hbz] at hfit2; omega)
                  (fun k hk => by rw [hfm] at hk; cases hk with | head => exact .inl (by rw [g4]; exact .head _) | tail _ hk => exact .inl (hinF k hk).1) (by rw [hfm]; exact hnd2) (fun k hk => by rw [hfm] at hk; exact ⟨set_mem _ _ _ _ (hinF k hk).2, (hinF k hk).1⟩) hcells hlen2 hin (by simp only; rw [over_length (by rw [hEl.1, ← hbz]; rw [hEl.1, ← hbz] at hfit2; omega)]; exact g9')
                refine ⟨S', .slice (some ⟨b, lo + o * blk.sh.length, some blk.sh.length⟩) (n + news.length) cc, m1, ?_, m5, m3, m4, Tch.of_one hS hb (fun k _ hk => by rw [m2]; exact set_mem _ _ _ _ fun he => hk (by rw [he, g4]; exact .head _)) (by simp [idsV])⟩
                rw [hP]; simp only
                rw [if_pos hin, if_neg hm, hoff, write_eq g2 g3 (by rw [← hoff]; exact hfit2), m2]; rfl
            · -- elsewhere
              have hrel := elR_append (S := S) (op := blk.op) (Fs := fun i => Fs (o + i)) (a := (blk.el.drop o).take n) (b := ns) (xs := olds) (ys := cs) (z := blk.sh.length) (by rw [g11, hol1]) (fun i e he => by
                have hi := (List.getElem?_eq_some_iff.1 he).1
                rw [← holds, part_at (by omega)]; exact g12 i e he) (fun i e he => by rw [hbz]; exact e2 i e he)
              rw [g11] at hrel
              have hlc : (olds ++ cs).length = (n + news.length) * blk.sh.length := by rw [List.length_append, hol1, hEl.1, hbz, Nat.add_mul]
              have mk : ∀ σ', S.σ.next ≤ σ'.next → MD σ' → (∀ k, k < S.σ.next → k ≠ b → σ'.mem k = S.σ.mem k) → σ'.mem S.σ.next = some { cells := olds ++ cs } →
                  ∃ S', S'.μ = S.μ.set id ⟨ver + news.length, blk.sh, (blk.el.drop o).take n ++ ns, true, blk.op, true⟩ ∧ S'.σ = σ' ∧ HOk S' ∧ Later S S' ∧ TV S' (.own id (ver + news.length) 0 (n + news.length) (n + news.length) false) (.slice (some ⟨S.σ.next, 0, some blk.sh.length⟩) (n + news.length) (capL (n + news.length))) := fun σ' h1 h2 h3 h4 =>
                renew_ok (el' := (blk.el.drop o).take n ++ ns) (σ' := σ') (b := S.σ.next) (lo := 0) (lb := { cells := olds ++ cs }) (Fs := fun i => if i < n then Fs (o + i) else []) (n := n + news.length) (cc := capL (n + news.length)) hS hb hw hver h1 h2 (fun k hk hk2 => h3 k hk fun he => hk2 (by rw [he, g4]; exact .head _)) h4 rfl (by simp only; rw [hlen2, hlc]; omega)
                  (fun k hk => by rw [hfm] at hk; cases hk with | head => exact .inr (Nat.le_refl _) | tail _ hk => exact .inl (hinF k hk).1) (by
                    rw [hfm]
                    refine List.nodup_cons.2 ⟨fun hh => ?_, (List.nodup_cons.1 hnd2).2⟩
                    have := hS.flt ⟨id, blk, b1, b2, (hinF _ hh).1⟩; omega) (fun k hk => by
                    rw [hfm] at hk
                    exact ⟨h3 k (hS.flt ⟨id, blk, b1, b2, (hinF k hk).1⟩) (hinF k hk).2, (hinF k hk).1⟩) (fun i e he => by simpa using hrel i e he) hlen2 (by simp [capL]) (by simp only; rw [hlc]; simp [capL])
              have hblt : b < S.σ.next := hS.md.lt g2
              by_cases hodd : cc % 2 = 1
              · obtain ⟨S', m1, m2, m3, m4, m5⟩ := mk (S.σ.push { cells := olds ++ cs }) (Nat.le_succ _) (push_md hS.md _) (fun k hk _ => push_mem _ _ hk) (push_self _ _)
                refine ⟨S', .slice (some ⟨S.σ.next, 0, some size⟩) (n + news.length) (capL (n + news.length)), m1, ?_, by rw [hbz] at m5; exact m5, m3, m4, Tch.of_low hS fun k hk => by rw [m2]; exact push_mem _ _ hk⟩
                rw [hP]; simp only
                rw [if_neg hin, hcof]
                simp only [Option.bind_some]
                rw [if_pos hbd, if_pos hodd, m2]
              · obtain ⟨S', m1, m2, m3, m4, m5⟩ := mk ((S.σ.set b none).push { cells := olds ++ cs }) (Nat.le_succ _) (push_md (hS.md.set g2 _) _) (fun k hk hkb => by rw [push_mem _ _ (show k < (S.σ.set b none).next from hk), set_mem _ _ _ _ hkb]) (push_self (S.σ.set b none) _)
                refine ⟨S', .slice (some ⟨S.σ.next, 0, some size⟩) (n + news.length) (capL (n + news.length)), m1, ?_, by rw [hbz] at m5; exact m5, m3, m4, Tch.of_one hS hb (fun k hk hk2 => by rw [m2, push_mem _ _ (show k < (S.σ.set b none).next from hk), set_mem _ _ _ _ fun he => hk2 (by rw [he, g4]; exact .head _)]) (by simp [idsV])⟩
                rw [hP]; simp only
                rw [if_neg hin, hcof]
                simp only [Option.bind_some]
                rw [if_pos hbd, if_neg hodd]
                simp only [g2]
                rw [if_pos ⟨g3, by rw [hbz]⟩, m2]
  | _ => simp only [cond_false, reduceCtorEq] at h
end Go.Lg.Pv
namespace Go.Lg.Pv
open Go Go.Lg
set_option linter.unusedVariables false
set_option linter.unnecessarySimpa false
set_option linter.unusedSimpArgs false
set_option linter.unusedSectionVars false

theorem cellsOf_take {σ : LH} {size m k : Nat} {x : Value} {cs : List Value} (h : cellsOf σ size m x = some cs) (hk : k ≤ m) : cellsOf σ size k x = some (cs.take (k * size)) := by
  unfold cellsOf at h ⊢
  split at h
  · split at h
    · rename_i hm; cases h; subst hm
      have : k = 0 := by omega
      subst this; simp
    · cases h
  · rename_i a n c _
    split at h
    · rename_i hm; cases h; subst hm
      have : k = 0 := by omega
      subst this; simp
    · split at h
      · rename_i b hb
        split at h
        · rename_i hl; cases h
          have hmul : k * size ≤ m * size := Nat.mul_le_mul_right _ hk
          by_cases h0 : k = 0
          · subst h0; simp
          · rw [if_neg h0]; rw [if_pos (by omega), List.take_take, Nat.min_eq_left hmul]
        · cases h
      · cases h
  · split at h
    · rename_i hc
      cases h
      rw [if_pos ⟨by omega, hc.2⟩, hc.2, Nat.mul_one, List.map_take, List.map_take, List.take_take, Nat.min_eq_left hk]
    · cases h
  · cases h

theorem qCp_sim {S : St} (hS : HOk S) {size : Nat} {d x : DV} {r : DV × PH} {d' x' : Value} (h : qCp S.μ size d x = some r) (hd : TV S d d') (hx : TV S x x') :
    ∃ S' v', S'.μ = r.2 ∧ pCp S.σ size d' x' = some (v', S'.σ) ∧ TV S' r.1 v' ∧ HOk S' ∧ Later S S' ∧ Tch S S' (idsV d) := by
  unfold qCp at h
  obtain ⟨news, hnews, h⟩ := Option.bind_eq_some_iff.1 h
  obtain ⟨hlen, cs, hcs, hEl⟩ := elsOf_sim hS hnews hx
  cases d with
  | nil =>
    simp only [Option.some.injEq] at h; subst h
    rw [hd.nil_inv]
    refine ⟨S, .int .i64 0, rfl, ?_, .int _ _, hS, Later.refl S, fun _ _ _ _ _ _ _ _ _ => rfl⟩
    unfold pCp
    rw [hlen, Option.bind_some, cellsOf_take hcs (Nat.zero_le _)]; rfl
  | own id ver o n c xx =>
    simp only at h
    obtain ⟨blk, hb, g⟩ := Option.bind_eq_some_iff.1 h
    clear h
    obtain ⟨b1, b2, b3⟩ := bk_some hb
    have hx2 := hd.own_inv.2.2 blk hb
    split at g
    · rename_i hm
      cases g
      refine ⟨S, .int .i64 0, rfl, ?_, .int _ _, hS, Later.refl S, fun _ _ _ _ _ _ _ _ _ => rfl⟩
      unfold pCp
      rw [hlen, Option.bind_some]
      rcases hx2 with ⟨rfl, rfl, rfl, rfl | ⟨b', o', rfl⟩⟩ | ⟨b, lo, cc, q1, rfl, q2, q3, q4, q5, q6⟩
      · rw [cellsOf_take hcs (Nat.zero_le _)]; rfl
      · simp only [hm]; rw [cellsOf_take hcs (Nat.zero_le _)]; rfl
      · simp only [hm]; rw [cellsOf_take hcs (Nat.zero_le _)]; rfl
    · rename_i hm
      split at g
      · rename_i hc
        obtain ⟨hz, hop, hfl⟩ := hc
        cases g
        subst hz
        rcases own_part hS hb hx2 with ⟨rfl, he, hv⟩ | ⟨b, lo, lb, Fs, cc, rfl, g0, g1, g2, g3, g4, g5, g6, g7, g8, g9, g9', g10, g11, g12⟩
        · omega
        · have hcl : (cs.take (min news.length n * blk.sh.length)).length = min news.length n * blk.sh.length := by
            rw [List.length_take, hEl.1]
            have : min news.length n * blk.sh.length ≤ news.length * blk.sh.length := Nat.mul_le_mul_right _ (Nat.min_le_left _ _)
            omega
          have hnl : (news.take (min news.length n)).length = min news.length n := by rw [List.length_take]; omega
          obtain ⟨S', m1, m2, m3, m4⟩ := wrEls_ok (k := o) (ns := news.take (min news.length n)) (vs := cs.take (min news.length n * blk.sh.length)) hS b1 b2 g1 g2 g4 g5 g10 (by rw [hnl]; omega) (by rw [hcl, hnl]) (fun i e he => by
            rw [List.getElem?_take] at he
            split at he
            · rename_i hi
              rw [hop, Lg.cellsAt_take hi]
              exact flat_tvs_cvs (hEl.2 i e he) (flat_cells _ (flatL_mem hfl e (List.mem_of_getElem? he)))
            · cases he)
          refine ⟨S', .int .i64 (min news.length n : Nat), m1, ?_, .int _ _, m3, m4, Tch.of_one hS hb (fun k _ hk => by rw [m2]; exact set_mem _ _ _ _ fun he => hk (by rw [he, g4]; exact .head _)) (by simp [idsV])⟩
          have hmul : o * blk.sh.length + min news.length n * blk.sh.length ≤ blk.el.length * blk.sh.length := by rw [← Nat.add_mul]; exact Nat.mul_le_mul_right _ (by omega)
          unfold pCp
          rw [hlen, Option.bind_some]
          simp only
          rw [cellsOf_take hcs (Nat.min_le_left _ _), Option.bind_some, if_neg hm, write_eq g2 g3 (by rw [hcl]; omega), m2]; rfl
      · cases g
  | _ => simp only [reduceCtorEq] at h

theorem qClr_sim {S : St} (hS : HOk S) {agg : Bool} {zero : List Value} {x : DV} {μ' : PH} {x' : Value} (hz : ∀ v ∈ zero, constOk v = true) (h : qClr S.μ agg (zD zero) x = some μ') (hx : TV S x x') :
    ∃ S', S'.μ = μ' ∧ pClr S.σ zero x' = some S'.σ ∧ HOk S' ∧ Later S S' ∧ Tch S S' (idsV x) := by
  cases x with
  | nil =>
    simp only [qClr, Option.some.injEq] at h; subst h
    rw [hx.nil_inv]
    exact ⟨S, rfl, rfl, hS, Later.refl S, fun _ _ _ _ _ _ _ _ _ => rfl⟩
  | own id ver o n c xx =>
    simp only [qClr] at h
    obtain ⟨blk, hb, h⟩ := Option.bind_eq_some_iff.1 h
    obtain ⟨b1, b2, b3⟩ := bk_some hb
    have hx2 := hx.own_inv.2.2 blk hb
    split at h
    · rename_i hn; cases h; subst hn
      refine ⟨S, rfl, ?_, hS, Later.refl S, fun _ _ _ _ _ _ _ _ _ => rfl⟩
      rcases hx2 with ⟨_, rfl, rfl, rfl | ⟨b', o', rfl⟩⟩ | ⟨b, lo, cc, q1, rfl, q2, q3, q4, q5, q6⟩
      · rfl
      · simp [pClr]
      · simp [pClr]
    · rename_i hn
      split at h
      · rename_i hc
        obtain ⟨hzl, hag, hok, hop⟩ := hc
        cases h
        have hzl' : zero.length = blk.sh.length := by simpa [zD] using hzl
        rcases own_part hS hb hx2 with ⟨rfl, he, hv⟩ | ⟨b, lo, lb, Fs, cc, rfl, g0, g1, g2, g3, g4, g5, g6, g7, g8, g9, g9', g10, g11, g12⟩
        · omega
        · obtain ⟨e1, e2⟩ := zelem_ok (S := S) (sh := blk.sh) hz hok (hag.imp (fun h => h) fun h => by simpa [zD] using h)
          obtain ⟨S', m1, m2, m3, m4⟩ := wrEls_ok (k := o) (ns := List.replicate n (elemD agg (nzL blk.sh (zD zero)))) (vs := zeros zero n) hS b1 b2 g1 g2 g4 g5 g10 (by rw [List.length_replicate]; omega) (by rw [zeros_len hzl', List.length_replicate]) (fun i e he => by
            rw [List.getElem?_replicate] at he
            split at he
            · rename_i hi; cases he; rw [hop, zeros_at hzl' _ _ hi]; exact e1
            · cases he)
          have hmul : o * blk.sh.length + n * blk.sh.length ≤ blk.el.length * blk.sh.length := by rw [← Nat.add_mul]; exact Nat.mul_le_mul_right _ (by omega)
          refine ⟨S', m1, ?_, m3, m4, Tch.of_one hS hb (fun k _ hk => by rw [m2]; exact set_mem _ _ _ _ fun he => hk (by rw [he, g4]; exact .head _)) (by simp [idsV])⟩
          simp only [pClr]
          rw [if_neg hn, write_eq g2 g3 (by rw [zeros_len hzl']; omega), m2]
      · cases h
  | _ => simp only [qClr, reduceCtorEq] at h

theorem bytesD_sim {S : St} : ∀ {l : List DV} {cs : List Value} {bs : List UInt8}, bytesD l = some bs → ElR S 1 l cs → bytesOf cs = some bs
  | [], cs, bs, h, hE => by
    have := hE.1
    simp only [List.length_nil, Nat.zero_mul] at this
    rw [List.eq_nil_of_length_eq_zero this]; simpa [bytesD, bytesOf] using h
  | v :: l, cs, bs, h, hE => by
    have hlen := hE.1
    match cs, hlen with
    | c :: cs, hlen =>
      cases v with
      | int k n =>
        cases k <;> simp only [bytesD, reduceCtorEq] at h
        obtain ⟨p, hp, rfl⟩ := Option.map_eq_some_iff.1 h
        have h0 := hE.2 0 _ rfl
        simp only [cellsAt, Nat.zero_mul, List.drop_zero, List.take_succ_cons, List.take_zero, cellsD] at h0
        cases h0 with
        | cons h1 _ =>
          rw [h1.int_inv]
          simp only [bytesOf]
          rw [bytesD_sim (S := S) hp ⟨by simpa using hlen, fun i e he => by
            have := hE.2 (i + 1) e (by simpa using he)
            simp only [cellsAt, Nat.mul_one, List.drop_succ_cons] at this ⊢
            exact this⟩]; rfl
      | _ => simp only [bytesD, reduceCtorEq] at h
    | [], hlen => simp at hlen

theorem qB2S_sim {S : St} (hS : HOk S) {x r : DV} {x' : Value} (h : qB2S S.μ x = some r) (hx : TV S x x') : ∃ r', pB2S S.σ x' = some r' ∧ TV S r r' := by
  have key : ∀ l, elsOf S.μ 1 x = some l → (bytesD l).map (fun l => DV.str ⟨l.toArray⟩) = some r → (∃ a n c, x' = .slice a n c) → ∃ r', pB2S S.σ x' = some r' ∧ TV S r r' := by
    rintro l hl hr ⟨a, n, c, rfl⟩
    obtain ⟨p, hp, rfl⟩ := Option.map_eq_some_iff.1 hr
    obtain ⟨hlen, cs, hcs, hEl⟩ := elsOf_sim hS hl hx
    simp only [lenV, Option.some.injEq] at hlen
    subst hlen
    refine ⟨.string ⟨p.toArray⟩, ?_, .str _⟩
    have hb := bytesD_sim hp hEl
    cases a with
    | none =>
      match l, c, hcs with
      | [], 0, _ =>
        simp only [bytesD, Option.some.injEq] at hp; subst hp
        rfl
      | [], c + 1, hcs => simp [cellsOf] at hcs
      | _ :: _, c, hcs => simp [cellsOf] at hcs
    | some a => simp only [pB2S, hcs, Option.bind_some, hb, Option.map_some]
  cases x with
  | str s => simp only [qB2S, reduceCtorEq] at h
  | nil =>
    simp only [qB2S] at h
    obtain ⟨l, hl, hr⟩ := Option.bind_eq_some_iff.1 h
    exact key l hl hr ⟨_, _, _, hx.nil_inv⟩
  | e0 z =>
    simp only [qB2S] at h
    obtain ⟨l, hl, hr⟩ := Option.bind_eq_some_iff.1 h
    refine key l hl hr ?_
    rcases hx.e0_inv with rfl | ⟨b, o, rfl⟩ <;> exact ⟨_, _, _, rfl⟩
  | sl sh l0 =>
    simp only [qB2S] at h
    obtain ⟨l, hl, hr⟩ := Option.bind_eq_some_iff.1 h
    refine key l hl hr ?_
    rcases hx.sl_inv with ⟨rfl, rfl | ⟨b, o, rfl⟩⟩ | ⟨b, o, c, blk, rfl, _⟩ <;> exact ⟨_, _, _, rfl⟩
  | own id ver o n c xx =>
    simp only [qB2S] at h
    obtain ⟨l, hl, hr⟩ := Option.bind_eq_some_iff.1 h
    refine key l hl hr ?_
    have hl2 := hl
    simp only [elsOf] at hl2
    obtain ⟨blk, hb, _⟩ := Option.bind_eq_some_iff.1 hl2
    rcases hx.own_inv.2.2 blk hb with ⟨rfl, rfl, rfl, rfl | ⟨b', o', rfl⟩⟩ | ⟨b, lo, cc, q1, rfl, q2, q3, q4, q5, q6⟩ <;> exact ⟨_, _, _, rfl⟩
  | _ =>
    simp only [qB2S] at h
    obtain ⟨l, hl, hr⟩ := Option.bind_eq_some_iff.1 h
    simp only [elsOf, reduceCtorEq] at hl

theorem qS2B_sim {S : St} (hS : HOk S) {lit : Bool} {x : DV} {r : DV × PH} {x' : Value} (h : qS2B S.μ lit x = some r) (hx : TV S x x') :
    ∃ S' v', S'.μ = r.2 ∧ pS2B S.σ x' = some (v', S'.σ) ∧ TV S' r.1 v' ∧ HOk S' ∧ Later S S' ∧ ∀ k, k < S.σ.next → S'.σ.mem k = S.σ.mem k := by
  cases x with
  | str s =>
    simp only [qS2B] at h
    rw [hx.str_inv]
    have hlen : s.data.toList.length = s.size := Array.length_toList
    have hcell : ∀ (i : Nat) e, (s.data.toList.map fun b => DV.int .u8 b.toNat)[i]? = some e → cellsD e = [e] ∧ cellsAt (s.data.toList.map fun b => Value.int .u8 b.toNat) 1 i = [.int .u8 (s.data.toList.getD i 0).toNat] ∧ e = .int .u8 (s.data.toList.getD i 0).toNat := fun i e he => by
      rw [List.getElem?_map] at he
      obtain ⟨b, hb, rfl⟩ := Option.map_eq_some_iff.1 he
      obtain ⟨hlt, rfl⟩ := List.getElem?_eq_some_iff.1 hb
      refine ⟨rfl, ?_, by simp [List.getD, hb]⟩
      unfold cellsAt
      rw [Nat.mul_one, List.drop_eq_getElem_cons (by simpa using hlt)]
      simp [List.getD, hb]
    cases lit with
    | true =>
      simp only [cond_true, Option.some.injEq] at h
      subst h
      obtain ⟨k1, k2⟩ := pushZ_ok hS (s.data.toList.map fun b => .int .u8 b.toNat)
      refine ⟨S.pushZ (s.data.toList.map fun b => .int .u8 b.toNat), _, rfl, rfl, ?_, k1, k2, fun k hk => push_mem _ _ hk⟩
      refine SlR.tv (.inr ⟨S.σ.next, 0, capL s.size, _, by rw [List.length_map, hlen]; rfl, .inr rfl, push_self _ _, by rw [List.length_map, hlen]; simp [capL], by simp, fun _ => by simp [capL, hlen], fun i e he => ?_⟩)
      obtain ⟨h1, h2, h3⟩ := hcell i e he
      simp only [List.drop_zero, List.length_cons, List.length_nil, Nat.zero_add]
      rw [h1, h2, h3]; exact .cons (.int _ _) .nil
    | false =>
      simp only [cond_false, Option.some.injEq] at h
      subst h
      obtain ⟨k1, k2⟩ := addO_ok (cells := s.data.toList.map fun b => .int .u8 b.toNat) (pb := ⟨0, [.sc], s.data.toList.map fun b => .int .u8 b.toNat, true, false, true⟩) hS (by simp) (fun i e he => by
        obtain ⟨h1, h2, h3⟩ := hcell i e he
        simp only [List.length_cons, List.length_nil, Nat.zero_add]
        rw [h1, h2, h3]; exact .cons (F := []) (.rv rfl (.int _ _)) .nil)
      refine ⟨_, _, rfl, rfl, ?_, k1, k2, fun k hk => push_mem _ _ hk⟩
      exact addO_own (S := S) (cells := s.data.toList.map fun b => .int .u8 b.toNat) (pb := ⟨0, [.sc], s.data.toList.map fun b => .int .u8 b.toNat, true, false, true⟩) (z := 1) (n := s.size) (c := s.size) (x := false) (cc := capL s.size) rfl (Nat.le_refl _) (by simp [capL]) (by simp [hlen]) (fun h => by cases h) (by simp [capL, hlen])
  | _ => simp only [qS2B, reduceCtorEq] at h

theorem fill_sim {S : St} {place : Nat → Option (Nat × Nat)} : ∀ {parts : List (Nat × DV)} {parts' : List (Nat × Value)} {l r : List DV} {l' : List Value}, fill place l parts = some r → PsV S parts parts' → TVs S l l' → ∃ r', fillL place l' parts' = some r' ∧ TVs S r r'
  | [], _, l, r, l', h, hp, hl => by cases hp; simp only [fill, Option.some.injEq] at h; subst h; exact ⟨l', rfl, hl⟩
  | (i, v) :: parts, _, l, r, l', h, hp, hl => by
    cases hp with
    | @cons _ _ y _ l'' hv hp =>
      simp only [fill] at h
      split at h
      · cases h
      · rename_i off size hpl
        split at h
        · rename_i hc
          have hcl := hv.cells
          obtain ⟨r', g1, g2⟩ := fill_sim h hp (hl.over hcl off)
          refine ⟨r', ?_, g2⟩
          simp only [fillL, hpl]
          rw [if_pos ⟨by have := hcl.len; simp at this; omega, by rw [← hl.len]; exact hc.2⟩]; exact g1
        · cases h
theorem qBuild_sim {S : St} {zero : List Value} {fs : List (Nat × Nat × Bool)} {parts : List (Nat × DV)} {parts' : List (Nat × Value)} {r : DV} (hz : ∀ v ∈ zero, constOk v = true) (h : qBuild (zD zero) fs parts = some r) (hp : PsV S parts parts') : ∃ r', pBuild zero fs parts' = some r' ∧ TV S r r' := by
  unfold qBuild at h
  obtain ⟨p, hp', rfl⟩ := Option.map_eq_some_iff.1 h
  obtain ⟨r', g1, g2⟩ := fill_sim hp' hp (zD_tvs hz)
  exact ⟨_, by simp only [pBuild, g1, Option.map_some], .agg _ _ g2⟩
end Go.Lg.Pv
namespace Go.Lg.Pv
open Go Go.Lg
set_option linter.unusedVariables false
set_option linter.unnecessarySimpa false
set_option linter.unusedSimpArgs false
set_option linter.unusedSectionVars false

abbrev Cal := Nat → List Value → LH → Option (List Value × LH)
/-- what a call in the same memory does -/
def CSim (call : CW) (cal : Cal) : Prop := ∀ (f : Nat) (args res : List DV) (μ' : PH) (S : St) (vargs : List Value), call f args S.μ = some (res, μ') → HOk S → TVs S args vargs →
  ∃ vres S', cal f vargs S.σ = some (vres, S'.σ) ∧ S'.μ = μ' ∧ HOk S' ∧ TVs S' res vres ∧ Later S S'
/-- what a call does, as its caller's table has it -/
def WSim (P : PEnv) (call : CW) (cal : Cal) : Prop := ∀ (f : Nat) (args res : List DV) (μ' : PH) (S : St) (vargs : List Value), callW P call f args S.μ = some (res, μ') → HOk S → TVs S args vargs →
  ∃ vres S', cal f vargs S.σ = some (vres, S'.σ) ∧ S'.μ = μ' ∧ HOk S' ∧ TVs S' res vres ∧ Later S S' ∧ (P.sig f ≠ none → Tch S S' (idsL args))

/-- what an operation was to memory -/
inductive KR (S S1 : St) : Kw → Kd → Prop where
  | plain : (∀ k, k < S.σ.next → S1.σ.mem k = S.σ.mem k) → KR S S1 .plain .plain
  | mk : (∀ k, k < S.σ.next → S1.σ.mem k = S.σ.mem k) → KR S S1 .mk .mk
  | ld {p : DV} {p' v' : Value} {size : Nat} {agg : Bool} : TV S p p' → pLd S.σ size agg p' = some v' → (∀ k, k < S.σ.next → S1.σ.mem k = S.σ.mem k) → KR S S1 (.ld p) (.ld p' size agg v')
  | eff {t : Option (List Nat)} : (∀ l, t = some l → Tch S S1 l) → KR S S1 (.eff t) .eff

section
variable {α : Type} {res : α} {P : PEnv} {call : CW} {cal : Cal} {f : Nat} {o : Oper} {fr : DFr} {fr' : Fr} {S : St} {k : Option DF → List (Nat × List DV) → PH → Option α}

def OpR (P : PEnv) (cal : Cal) (f : Nat) (o : Oper) (fr : DFr) (fr' : Fr) (S : St) {α : Type} (k : Option DF → List (Nat × List DV) → PH → Option α) (res : α) : Prop :=
  ∃ x regs S1 x' regs', k x regs S1.μ = some res ∧ (∀ {β : Type} (k' : Option FV → List (Nat × List Value) → LH → Option β), opC P.E cal f o fr' S.σ k' = k' x' regs' S1.σ) ∧
    HOk S1 ∧ Later S S1 ∧ ORel S1 x x' ∧ RgRel S1 regs regs' ∧ ∀ kd, kindW P f o fr = some kd → ∃ kd', kindOf P.E f o fr' x' = some kd' ∧ KR S S1 kd kd'

theorem opR_plain (hS : HOk S) (hf : FrRel S fr fr') {x : DF} {x' : FV} (hk : k (some x) fr.regs S.μ = some res) (hx : FRel S x x')
    (ho : ∀ {β : Type} (k' : Option FV → List (Nat × List Value) → LH → Option β), opC P.E cal f o fr' S.σ k' = k' (some x') fr'.regs S.σ)
    (hkd : ∀ kd, kindW P f o fr = some kd → kd = .plain ∧ kindOf P.E f o fr' (some x') = some .plain) : OpR P cal f o fr fr' S k res :=
  ⟨some x, fr.regs, S, some x', fr'.regs, hk, ho, hS, Later.refl S, .some hx, hf.rg, fun kd h => by
    obtain ⟨rfl, h2⟩ := hkd kd h
    exact ⟨.plain, h2, .plain fun _ _ => rfl⟩⟩
theorem opR_mk (hS : HOk S) (hf : FrRel S fr fr') {x : DV} {x' : Value} {S1 : St} {μ1 : PH} (hμ : S1.μ = μ1) (hk : k (some (.val x)) fr.regs μ1 = some res) (hx : TV S1 x x') (h1 : HOk S1) (hL : Later S S1) (hlow : ∀ k, k < S.σ.next → S1.σ.mem k = S.σ.mem k)
    (ho : ∀ {β : Type} (k' : Option FV → List (Nat × List Value) → LH → Option β), opC P.E cal f o fr' S.σ k' = k' (some (.val x')) fr'.regs S1.σ)
    (hkd : ∀ kd, kindW P f o fr = some kd → (kd = .mk ∧ kindOf P.E f o fr' (some (.val x')) = some .mk) ∨ (∃ t, kd = .eff t ∧ kindOf P.E f o fr' (some (.val x')) = some .eff)) : OpR P cal f o fr fr' S k res := by
  subst hμ
  exact ⟨_, _, S1, _, _, hk, ho, h1, hL, .some (.val hx), hf.rg.later hL hS, fun kd h => by
    rcases hkd kd h with ⟨rfl, h2⟩ | ⟨t, rfl, h2⟩
    · exact ⟨.mk, h2, .mk hlow⟩
    · exact ⟨.eff, h2, .eff fun l _ => Tch.of_low hS hlow⟩⟩

theorem argW_sub : ∀ {xs : List Operand} {t : Nat} {x : Operand} {v : DV}, x ∈ xs → x = .tmp t → look fr.tmps t = some (some (.val v)) → v ∈ argW fr xs
  | [], _, _, _, h, _, _ => by cases h
  | y :: ys, t, x, v, h, hx, hl => by
    subst hx
    cases h with
    | head => simp only [argW, hl]; exact .head _
    | tail _ h =>
      have ih := argW_sub h rfl hl
      cases y with
      | tmp u =>
        simp only [argW]
        split
        · exact .tail _ ih
        · exact ih
      | _ => simp only [argW]; exact ih
theorem idsL_mem : ∀ {l : List DV} {v : DV} {i : Nat}, v ∈ l → i ∈ idsV v → i ∈ idsL l
  | [], _, _, h, _ => by cases h
  | a :: l, v, i, h, hi => by
    simp only [idsL]
    cases h with
    | head => exact List.mem_append_left _ hi
    | tail _ h => exact List.mem_append_right _ (idsL_mem h hi)
theorem idsV_const {v : Value} (h : constOk v = true) : idsV (dvC v) = [] := by
  cases v <;> simp only [constOk, Bool.false_eq_true] at h <;> try rfl
  · rename_i a; cases a with | none => rfl | some a => simp [constOk] at h
  · rename_i a n c
    cases a with
    | none =>
      cases n with
      | zero => cases c with | zero => rfl | succ c => simp [constOk] at h
      | succ n => simp [constOk] at h
    | some a => simp [constOk] at h
/-- an operand's own blocks are those of its temporary -/
theorem evV_ids {x : Operand} {kk : DV → Option α} (h : fr.evV x kk = some res) : ∃ y, kk y = some res ∧ ∀ xs, x ∈ xs → ∀ i ∈ idsV y, i ∈ idsL (argW fr xs) := by
  unfold DFr.evV DFr.ev at h
  cases x with
  | tmp t =>
    simp only at h
    split at h
    · rename_i v hv
      cases v with
      | val v => exact ⟨v, h, fun xs hx i hi => idsL_mem (argW_sub hx rfl hv) hi⟩
      | _ => cases h
    · cases h
  | const v =>
    simp only at h
    cases hc : constOk v with
    | false => rw [hc] at h; cases h
    | true => rw [hc] at h; exact ⟨_, h, fun xs _ i hi => by rw [idsV_const hc] at hi; cases hi⟩
  | func g => exact ⟨_, h, fun xs _ i hi => by simp [idsV, idsL] at hi⟩
  | «global» g => cases h
theorem evV_both (hf : FrRel S fr fr') {x : Operand} {kk : DV → Option α} (h : fr.evV x kk = some res) : ∃ y y', kk y = some res ∧ TV S y y' ∧ (∀ {β : Type} (k' : Value → Option β), fr'.evV x k' = k' y') ∧ ∀ xs, x ∈ xs → ∀ i ∈ idsV y, i ∈ idsL (argW fr xs) := by
  unfold DFr.evV DFr.ev at h
  cases x with
  | tmp t =>
    simp only at h
    split at h
    · rename_i v hv
      cases v with
      | val v =>
        rcases hf.ts.look t with ⟨h1, h2⟩ | ⟨a, b, h1, h2, h3⟩
        · rw [h1] at hv; cases hv
        · rw [h1] at hv; cases hv
          cases h3 with
          | some h3 =>
            cases h3 with
            | val h3 => exact ⟨v, _, h, h3, fun k' => by simp only [Fr.evV, Fr.ev, h2], fun xs hx i hi => idsL_mem (argW_sub hx rfl h1) hi⟩
      | _ => cases h
    · cases h
  | const v =>
    simp only at h
    cases hc : constOk v with
    | false => rw [hc] at h; cases h
    | true => rw [hc] at h; exact ⟨_, v, h, dvC_tv hc, fun k' => by simp only [Fr.evV, Fr.ev, hc, cond_true], fun xs _ i hi => by rw [idsV_const hc] at hi; cases hi⟩
  | func g => exact ⟨_, .func (.func g) #[] #[], h, .fn g [] [] [] [] .nil .nil, fun k' => rfl, fun xs _ i hi => by simp [idsV, idsL] at hi⟩
  | «global» g => cases h
theorem evVs_both (hf : FrRel S fr fr') : ∀ {xs : List Operand} {kk : List DV → Option α}, fr.evVs xs kk = some res → ∃ y y', kk y = some res ∧ TVs S y y' ∧ (∀ {β : Type} (k' : List Value → Option β), fr'.evVs xs k' = k' y') ∧ ∀ zs, (∀ x ∈ xs, x ∈ zs) → ∀ i ∈ idsL y, i ∈ idsL (argW fr zs)
  | [], kk, h => ⟨[], [], h, .nil, fun _ => rfl, fun _ _ i hi => by simp [idsL] at hi⟩
  | x :: xs, kk, h => by
    obtain ⟨y, y', h1, h2, h3, h4⟩ := evV_both hf (kk := fun v => fr.evVs xs fun l => kk (v :: l)) h
    obtain ⟨l, l', g1, g2, g3, g4⟩ := evVs_both hf (kk := fun l => kk (y :: l)) h1
    refine ⟨_, _, g1, .cons h2 g2, fun k' => by show fr'.evV x _ = _; rw [h3, g3], fun zs hz i hi => ?_⟩
    simp only [idsL] at hi
    rcases List.mem_append.1 hi with hi | hi
    · exact h4 zs (hz x (.head _)) i hi
    · exact g4 zs (fun w hw => hz w (.tail _ hw)) i hi
theorem Tch.mono {S S' : St} {l l' : List Nat} (h : Tch S S' l) (hs : ∀ i ∈ l, i ∈ l') : Tch S S' l' := fun id ver blk hb hl hn => h id ver blk hb hl fun hh => hn (hs id hh)

theorem ev_adr (hf : FrRel S fr fr') {x : Operand} {kk : DF → Option α} (h : fr.ev x kk = some res) : ∃ y y', kk y = some res ∧ FRel S y y' ∧ (∀ {β : Type} (k' : FV → Option β), fr'.ev x k' = k' y') ∧ (∀ z, adrW fr x = some z → z = some y ∧ addrOf fr' x = some (some y')) := by
  unfold DFr.ev at h
  cases x with
  | tmp t =>
    simp only at h
    split at h
    · rename_i v hv
      rcases hf.ts.look t with ⟨h1, h2⟩ | ⟨a, b, h1, h2, h3⟩
      · rw [h1] at hv; cases hv
      · rw [h1] at hv; cases hv
        cases h3 with
        | some h3 => exact ⟨_, _, h, h3, fun k' => by simp only [Fr.ev, h2], fun z hz => by simp only [adrW, h1, Option.some.injEq] at hz; exact ⟨hz.symm, by simp only [addrOf, h2]⟩⟩
    · cases h
  | const v =>
    simp only at h
    cases hc : constOk v with
    | false => rw [hc] at h; cases h
    | true => rw [hc] at h; exact ⟨_, .val v, h, .val (dvC_tv hc), fun k' => by simp only [Fr.ev, hc, cond_true], fun z hz => by simp [adrW] at hz⟩
  | func g => exact ⟨_, .val (.func (.func g) #[] #[]), h, .val (.fn g [] [] [] [] .nil .nil), fun k' => rfl, fun z hz => by simp [adrW] at hz⟩
  | «global» g => cases h

theorem rdD_sim {cs : List DV} {cs' : List Value} (hc : TVs S cs cs') {off size : Nat} {agg : Bool} {kk : DV → Option α} (h : rdD cs off size agg kk = some res) : ∃ v v', kk v = some res ∧ TV S v v' ∧ ∀ {β : Type} (k' : Value → Option β), rdReg cs' off size agg k' = k' v' := by
  unfold rdD at h
  cases agg with
  | true =>
    simp only [cond_true] at h
    cases hb : Nat.ble (off + size) cs.length with
    | false => rw [hb] at h; cases h
    | true =>
      rw [hb] at h
      exact ⟨_, _, h, .agg _ _ ((hc.drop off).take size), fun k' => by simp only [rdReg, cond_true, ← hc.len, hb]⟩
  | false =>
    simp only [cond_false] at h
    have hd := hc.drop off
    split at h
    · rename_i v l hv
      rw [hv] at hd
      generalize hw : cs'.drop off = w at hd
      cases hd with
      | cons h1 h2 => exact ⟨_, _, h, h1, fun k' => by simp only [rdReg, cond_false, hw]⟩
    · cases h
end
end Go.Lg.Pv
namespace Go.Lg.Pv
open Go Go.Lg
set_option linter.unusedVariables false
set_option linter.unnecessarySimpa false
set_option linter.unusedSimpArgs false
set_option linter.unusedSectionVars false

theorem isNone_len {α β : Type} {a : Option α} {b : Option β} (h : (a = none ∧ b = none) ∨ ∃ x y, a = some x ∧ b = some y) : isNone' a = isNone' b := by
  rcases h with ⟨rfl, rfl⟩ | ⟨x, y, rfl, rfl⟩ <;> rfl

section
variable {α : Type} {res : α} {P : PEnv} {call : CW} {cal : Cal} {f : Nat} {o : Oper} {fr : DFr} {fr' : Fr} {S : St} {k : Option DF → List (Nat × List DV) → PH → Option α}

theorem tiGood_const {ti : TI} (h : tiGood ti = true) : (∀ v ∈ ti.zero, constOk v = true) ∧ (ti.agg = true ∨ ti.size = 1) ∧ ti.zero.length = ti.size := by
  simp only [tiGood, Bool.and_eq_true, List.all_eq_true, beq_iff_eq, Bool.or_eq_true] at h
  exact ⟨h.1.1.2, h.2.imp id fun h => h, h.1.1.1⟩

theorem RgRel.none_iff {l : List (Nat × List DV)} {l' : List (Nat × List Value)} (h : RgRel S l l') (t : Nat) : isNone' (Lg.look l t) = isNone' (Lg.look l' t) := by
  rcases h.look t with ⟨h1, h2⟩ | ⟨x, y, h1, h2, _⟩ <;> rw [h1, h2] <;> rfl

theorem sim_alloc (hG : ∀ T ti, P.E.ti T = some ti → tiGood ti = true) (hS : HOk S) (hf : FrRel S fr fr') {T : TypeId} (hop : o.op = .alloc T) (h : opW P call f o fr S.μ k = some res) : OpR P cal f o fr fr' S k res := by
  simp only [opW, hop] at h
  cases hti : P.E.ti T with
  | none => rw [hti] at h; cases h
  | some ti =>
    cases hd : o.dst with
    | none => rw [hti, hd] at h; cases h
    | some d =>
      rw [hti, hd] at h
      simp only at h
      obtain ⟨hz, hag, hzl⟩ := tiGood_const (hG T ti hti)
      cases hl : P.E.loc f d with
      | true =>
        rw [hl] at h; simp only [cond_true] at h
        cases hn : isNone' (Lg.look fr.regs d) with
        | false => rw [hn] at h; cases h
        | true =>
          rw [hn] at h; simp only [cond_true] at h
          refine ⟨_, _, S, _, (d, ti.zero) :: fr'.regs, h, fun k' => ?_, hS, Later.refl S, .some (.reg d 0), .cons (zD_tvs hz) hf.rg, fun kd hk => ?_⟩
          · have := hf.rg.none_iff d
            simp only [opC, hop, hti, hd, hl, cond_true, ← this, hn]
          · simp only [kindW, hop, hd, hl, cond_true, reduceCtorEq] at hk
      | false =>
        rw [hl] at h; simp only [cond_false] at h
        obtain ⟨r, hr, h⟩ := Option.bind_eq_some_iff.1 h
        obtain ⟨S1, e1, e2, e3, e4, e5⟩ := qAl_sim hS hr (zD_tvs (S := S) hz)
        refine opR_mk hS hf e1 h e3 e4 e5 (fun k hk => by rw [e2]; exact push_mem _ _ hk) (fun k' => ?_) (fun kd hk => ?_)
        · simp only [opC, hop, hti, hd, hl, cond_false, e2]
        · simp only [kindW, hop, hd, hl, cond_false, Option.some.injEq] at hk
          exact .inl ⟨hk.symm, by simp only [kindOf, hop, hd, hl, cond_false]⟩
theorem sim_box (hG : ∀ T ti, P.E.ti T = some ti → tiGood ti = true) (hS : HOk S) (hf : FrRel S fr fr') {T : TypeId} {x : Operand} (hop : o.op = .box T x) (h : opW P call f o fr S.μ k = some res) : OpR P cal f o fr fr' S k res := by
  simp only [opW, hop] at h
  cases hti : P.E.ti T with
  | none => rw [hti] at h; cases h
  | some ti =>
    cases hd : o.dst with
    | none => rw [hti, hd] at h; cases h
    | some d =>
      rw [hti, hd] at h
      simp only at h
      obtain ⟨v, v', h1, h2, h3⟩ := evV_sim hf h
      obtain ⟨cs', g1, g2, g3, g4, g5, g6, g7⟩ := h2.dC h1
      cases hl : P.E.loc f d with
      | true =>
        rw [hl] at g1; simp only [cond_true] at g1
        cases hn : isNone' (Lg.look fr.regs d) with
        | false => rw [hn] at g1; cases g1
        | true =>
          rw [hn] at g1; simp only [cond_true] at g1
          refine ⟨_, _, S, _, (d, cs') :: fr'.regs, g1, fun k' => ?_, hS, Later.refl S, .some (.reg d 0), .cons g2 hf.rg, fun kd hk => ?_⟩
          · have := hf.rg.none_iff d
            simp only [opC, hop, hti, hd, h3, g5, hl, cond_true, ← this, hn]
          · simp only [kindW, hop, hd, hl, cond_true, reduceCtorEq] at hk
      | false =>
        rw [hl] at g1; simp only [cond_false] at g1
        obtain ⟨r, hr, g1⟩ := Option.bind_eq_some_iff.1 g1
        obtain ⟨S1, e1, e2, e3, e4, e5⟩ := qAl_sim hS hr g2
        refine opR_mk hS hf e1 g1 e3 e4 e5 (fun k hk => by rw [e2]; exact push_mem _ _ hk) (fun k' => ?_) (fun kd hk => ?_)
        · simp only [opC, hop, hti, hd, h3, g5, hl, cond_false, e2]
        · simp only [kindW, hop, hd, hl, cond_false, Option.some.injEq] at hk
          exact .inl ⟨hk.symm, by simp only [kindOf, hop, hd, hl, cond_false]⟩
theorem sim_load (hG : ∀ T ti, P.E.ti T = some ti → tiGood ti = true) (hS : HOk S) (hf : FrRel S fr fr') {T : TypeId} {x : Operand} (hop : o.op = .load T x) (h : opW P call f o fr S.μ k = some res) : OpR P cal f o fr fr' S k res := by
  simp only [opW, hop] at h
  cases hti : P.E.ti T with
  | none => rw [hti] at h; cases h
  | some ti =>
    rw [hti] at h
    simp only at h
    obtain ⟨hz, hag, hzl⟩ := tiGood_const (hG T ti hti)
    obtain ⟨y, y', h1, h2, h3, h4⟩ := ev_adr hf h
    cases h2 with
    | reg t off =>
      simp only at h1
      rcases hf.rg.look t with ⟨g1, g2⟩ | ⟨cs, cs', g1, g2, g3⟩
      · rw [g1] at h1; cases h1
      · rw [g1] at h1
        obtain ⟨v, v', e1, e2, e3⟩ := rdD_sim g3 h1
        refine opR_plain hS hf e1 (.val e2) (fun k' => by simp only [opC, hop, hti, h3, g2, e3]) (fun kd hk => ?_)
        simp only [kindW, hop] at hk
        cases ha : adrW fr x with
        | none => rw [ha] at hk; cases hk
        | some z =>
          obtain ⟨rfl, h6⟩ := h4 z ha
          rw [ha] at hk
          simp only [Option.some.injEq] at hk
          exact ⟨hk.symm, by simp only [kindOf, hop, h6]⟩
    | val hp =>
      simp only at h1
      obtain ⟨r, hr, h1⟩ := Option.bind_eq_some_iff.1 h1
      obtain ⟨S1, v', e1, e2, e3, e4, e5, e6⟩ := qLd_sim hS hag hr hp
      rw [← e1] at h1
      refine ⟨_, _, S1, some (.val v'), fr'.regs, h1, fun k' => by simp only [opC, hop, hti, h3, e2, Option.bind_some, e6], e4, e5, .some (.val e3), hf.rg.later e5 hS, fun kd hk => ?_⟩
      simp only [kindW, hop] at hk
      cases ha : adrW fr x with
      | none => rw [ha] at hk; cases hk
      | some z =>
        obtain ⟨rfl, h6⟩ := h4 z ha
        rw [ha] at hk
        simp only [Option.some.injEq] at hk
        subst hk
        exact ⟨_, by simp only [kindOf, hop, hti, h6], .ld hp e2 fun k _ => by rw [e6]⟩
    | _ => cases h1
theorem over_len {l vs : List Value} {off : Nat} (h : off + vs.length ≤ l.length) : (Lg.over l off vs).length = l.length := over_length h
theorem sim_store (hS : HOk S) (hf : FrRel S fr fr') {T : TypeId} {x y : Operand} (hop : o.op = .store T x y) (h : opW P call f o fr S.μ k = some res) : OpR P cal f o fr fr' S k res := by
  simp only [opW, hop] at h
  cases hti : P.E.ti T with
  | none => rw [hti] at h; cases h
  | some ti =>
    rw [hti] at h
    simp only at h
    obtain ⟨a, a', h1, h2, h3, h4⟩ := ev_adr hf h
    cases h2 with
    | reg t off =>
      simp only at h1
      rcases hf.rg.look t with ⟨g1, g2⟩ | ⟨cs, cs', g1, g2, g3⟩
      · rw [g1] at h1; cases h1
      · rw [g1] at h1
        obtain ⟨v, v', e1, e2, e3⟩ := evV_sim hf h1
        obtain ⟨vs', q1, q2, q3, q4, q5, q6, q7⟩ := e2.dC e1
        cases hb : Nat.ble (off + ti.size) cs.length with
        | false => rw [hb] at q1; cases q1
        | true =>
          rw [hb] at q1
          simp only [cond_true] at q1
          refine ⟨_, _, S, none, (t, Lg.over cs' off vs') :: fr'.regs, q1, fun k' => by simp only [opC, hop, hti, h3, g2, e3, q5, ← g3.len, hb, cond_true], hS, Later.refl S, .none, .cons (g3.over q2 off) hf.rg, fun kd hk => ?_⟩
          simp only [kindW, hop] at hk
          cases ha : adrW fr x with
          | none => rw [ha] at hk; cases hk
          | some z =>
            obtain ⟨rfl, h6⟩ := h4 z ha
            rw [ha] at hk
            cases hk
    | val hp =>
      simp only at h1
      obtain ⟨v, v', e1, e2, e3⟩ := evV_sim hf h1
      obtain ⟨μ1, hr, e1⟩ := Option.bind_eq_some_iff.1 e1
      obtain ⟨S1, q1, q2, q3, q4, q5⟩ := qSt_sim hS hr hp e2
      subst q1
      refine ⟨_, _, S1, none, fr'.regs, e1, fun k' => by simp only [opC, hop, hti, h3, e3, q2, Option.bind_some], q3, q4, .none, hf.rg.later q4 hS, fun kd hk => ?_⟩
      simp only [kindW, hop] at hk
      cases ha : adrW fr x with
      | none => rw [ha] at hk; cases hk
      | some z =>
        obtain ⟨rfl, h6⟩ := h4 z ha
        rw [ha] at hk
        simp only [Option.some.injEq] at hk
        subst hk
        exact ⟨_, by simp only [kindOf, hop, h6], .eff fun l hl => by
          cases hl
          exact fun id ver blk hb _ hn b lo hι => q5 id ver hn b lo hι ⟨blk, hb⟩⟩
    | _ => cases h1

theorem sim_fieldAddr (hS : HOk S) (hf : FrRel S fr fr') {T : TypeId} {x : Operand} {i : Nat} (hop : o.op = .fieldAddr T x i) (h : opW P call f o fr S.μ k = some res) : OpR P cal f o fr fr' S k res := by
  simp only [opW, hop] at h
  split at h
  · rename_i a b c d fs hti
    split at h
    · rename_i off size ag hfs
      cases hb : Nat.beq size 0 with
      | true => rw [hb] at h; cases h
      | false =>
        rw [hb] at h; simp only [cond_false] at h
        obtain ⟨y, y', h1, h2, h3⟩ := ev_sim hf h
        have hkd : ∀ v kd, kindW P f o fr = some kd → kd = .plain ∧ kindOf P.E f o fr' (some v) = some .plain := fun v kd hk => by
          simp only [kindW, hop, Option.some.injEq] at hk
          exact ⟨hk.symm, by simp only [kindOf, hop]⟩
        cases h2 with
        | reg t o0 => exact opR_plain hS hf h1 (.reg t _) (fun k' => by simp only [opC, hop, hti, hfs, hb, cond_false, h3]) (hkd _)
        | val hp =>
          simp only at h1
          obtain ⟨v, hv, h1⟩ := Option.bind_eq_some_iff.1 h1
          obtain ⟨v', e1, e2⟩ := qFA_sim hv hp
          exact opR_plain hS hf h1 (.val e2) (fun k' => by simp only [opC, hop, hti, hfs, hb, cond_false, h3, e1, Option.bind_some]) (hkd _)
        | _ => cases h1
    · cases h
  · cases h
theorem sim_field (hS : HOk S) (hf : FrRel S fr fr') {T : TypeId} {x : Operand} {i : Nat} (hop : o.op = .field T x i) (h : opW P call f o fr S.μ k = some res) : OpR P cal f o fr fr' S k res := by
  simp only [opW, hop] at h
  split at h
  · rename_i a b c d fs hti
    split at h
    · rename_i off size ag hfs
      obtain ⟨y, y', h1, h2, h3⟩ := evV_sim hf h
      obtain ⟨v, hv, h1⟩ := Option.bind_eq_some_iff.1 h1
      obtain ⟨v', e1, e2⟩ := qFld_sim hv h2
      refine opR_plain hS hf h1 (.val e2) (fun k' => by simp only [opC, hop, hti, hfs, h3, e1, Option.bind_some]) (fun kd hk => ?_)
      simp only [kindW, hop, Option.some.injEq] at hk
      exact ⟨hk.symm, by simp only [kindOf, hop]⟩
    · cases h
  · cases h
theorem sim_indexAddr (hS : HOk S) (hf : FrRel S fr fr') {T : TypeId} {x i : Operand} (hop : o.op = .indexAddr T x i) (h : opW P call f o fr S.μ k = some res) : OpR P cal f o fr fr' S k res := by
  simp only [opW, hop] at h
  split at h
  · rename_i a b c d e hti
    split at h
    · rename_i te hte
      obtain ⟨y, y', h1, h2, h3⟩ := evV_sim hf h
      obtain ⟨z, z', g1, g2, g3⟩ := evV_sim hf h1
      obtain ⟨v, hv, g1⟩ := Option.bind_eq_some_iff.1 g1
      obtain ⟨v', e1, e2⟩ := qIA_sim hv h2 g2
      refine opR_plain hS hf g1 (.val e2) (fun k' => by simp only [opC, hop, hti, hte, h3, g3, e1, Option.bind_some]) (fun kd hk => ?_)
      simp only [kindW, hop, Option.some.injEq] at hk
      exact ⟨hk.symm, by simp only [kindOf, hop]⟩
    · cases h
  · cases h
theorem sim_index (hS : HOk S) (hf : FrRel S fr fr') {T : TypeId} {x i : Operand} (hop : o.op = .index T x i) (h : opW P call f o fr S.μ k = some res) : OpR P cal f o fr fr' S k res := by
  simp only [opW, hop] at h
  split at h
  · rename_i a b c d hti
    obtain ⟨y, y', h1, h2, h3⟩ := evV_sim hf h
    obtain ⟨z, z', g1, g2, g3⟩ := evV_sim hf h1
    obtain ⟨v, hv, g1⟩ := Option.bind_eq_some_iff.1 g1
    obtain ⟨v', e1, e2⟩ := qIx_sim hv h2 g2
    refine opR_plain hS hf g1 (.val e2) (fun k' => by simp only [opC, hop, hti, h3, g3, e1, Option.bind_some]) (fun kd hk => ?_)
    simp only [kindW, hop, Option.some.injEq] at hk
    exact ⟨hk.symm, by simp only [kindOf, hop]⟩
  · cases h
theorem sim_nilCheck (hS : HOk S) (hf : FrRel S fr fr') {x : Operand} (hop : o.op = .nilCheck x) (h : opW P call f o fr S.μ k = some res) : OpR P cal f o fr fr' S k res := by
  simp only [opW, hop] at h
  obtain ⟨y, y', h1, h2, h3⟩ := ev_sim hf h
  have hkd : ∀ v kd, kindW P f o fr = some kd → kd = .plain ∧ kindOf P.E f o fr' (some v) = some .plain := fun v kd hk => by
    simp only [kindW, hop, Option.some.injEq] at hk
    exact ⟨hk.symm, by simp only [kindOf, hop]⟩
  cases h2 with
  | reg t o0 => exact opR_plain hS hf h1 (.reg t _) (fun k' => by simp only [opC, hop, h3]) (hkd _)
  | val hp =>
    simp only at h1
    obtain ⟨v, hv, h1⟩ := Option.bind_eq_some_iff.1 h1
    obtain ⟨v', e1, e2⟩ := qNil_sim hv hp
    exact opR_plain hS hf h1 (.val e2) (fun k' => by simp only [opC, hop, h3, e1, Option.bind_some]) (hkd _)
  | _ => cases h1
theorem sim_binOp (hS : HOk S) (hf : FrRel S fr fr') {op : BinOp} {T : TypeId} {x y : Operand} {z : TypeId} (hop : o.op = .binOp op T x y z) (h : opW P call f o fr S.μ k = some res) : OpR P cal f o fr fr' S k res := by
  simp only [opW, hop] at h
  cases hti : P.E.ti T with
  | none => rw [hti] at h; cases h
  | some ti =>
    rw [hti] at h
    simp only at h
    obtain ⟨a, a', h1, h2, h3⟩ := evV_sim hf h
    obtain ⟨b, b', g1, g2, g3⟩ := evV_sim hf h1
    have hkd : ∀ v kd, kindW P f o fr = some kd → kd = .plain ∧ kindOf P.E f o fr' (some v) = some .plain := fun v kd hk => by
      simp only [kindW, hop, Option.some.injEq] at hk
      exact ⟨hk.symm, by simp only [kindOf, hop]⟩
    have gen : ∀ sh, ti.shape = sh → (∀ l, sh ≠ .struct l) → (qBin S.μ sh op a b).bind (fun v => k (some (.val v)) fr.regs S.μ) = some res → OpR P cal f o fr fr' S k res := fun sh hsh hns hq => by
      obtain ⟨v, hv, hq⟩ := Option.bind_eq_some_iff.1 hq
      obtain ⟨v', e1, e2⟩ := qBin_sim hv h2 g2
      refine opR_plain hS hf hq (.val e2) (fun k' => ?_) (hkd _)
      simp only [opC, hop, hti, h3, g3, hsh]
      cases sh <;> first | exact absurd rfl (hns _) | simp only [e1, Option.bind_some]
    cases hsh : ti.shape with
    | struct l =>
      rw [hsh] at g1
      simp only at g1
      cases hq : P.E.eqT T with
      | nil => rw [hq] at g1; cases g1
      | cons q ks =>
        rw [hq] at g1
        simp only at g1
        obtain ⟨v, hv, g1⟩ := Option.bind_eq_some_iff.1 g1
        obtain ⟨v', e1, e2⟩ := qEqS_sim hv h2 g2
        exact opR_plain hS hf g1 (.val e2) (fun k' => by simp only [opC, hop, hti, h3, g3, hsh, hq, e1, Option.bind_some]) (hkd _)
    | _ => rw [hsh] at g1; exact gen _ hsh (by intro l hl; cases hl) g1
theorem sim_unOp (hS : HOk S) (hf : FrRel S fr fr') {op : UnOp} {T : TypeId} {x : Operand} (hop : o.op = .unOp op T x) (h : opW P call f o fr S.μ k = some res) : OpR P cal f o fr fr' S k res := by
  simp only [opW, hop] at h
  obtain ⟨a, a', h1, h2, h3⟩ := evV_sim hf h
  obtain ⟨v, hv, h1⟩ := Option.bind_eq_some_iff.1 h1
  obtain ⟨v', e1, e2⟩ := qUn_sim hv h2
  refine opR_plain hS hf h1 (.val e2) (fun k' => by simp only [opC, hop, h3, e1, Option.bind_some]) (fun kd hk => ?_)
  simp only [kindW, hop, Option.some.injEq] at hk
  exact ⟨hk.symm, by simp only [kindOf, hop]⟩
theorem sim_convert (hS : HOk S) (hf : FrRel S fr fr') {A T : TypeId} {x : Operand} (hop : o.op = .convert A T x) (h : opW P call f o fr S.μ k = some res) : OpR P cal f o fr fr' S k res := by
  simp only [opW, hop] at h
  cases hs : P.E.ti A with
  | none => rw [hs] at h; cases h
  | some s =>
    cases ht : P.E.ti T with
    | none => rw [hs, ht] at h; cases h
    | some t =>
      rw [hs, ht] at h
      simp only at h
      split at h
      · rename_i q1 q2 e1 e2
        obtain ⟨a, a', h1, h2, h3⟩ := evV_sim hf h
        obtain ⟨v, hv, h1⟩ := Option.bind_eq_some_iff.1 h1
        obtain ⟨v', g1, g2⟩ := qInt_sim hv h2
        refine opR_plain hS hf h1 (.val g2) (fun k' => by simp only [opC, hop, hs, ht, e1, e2, h3, g1, Option.bind_some]) (fun kd hk => ?_)
        simp only [kindW, hop, hs, ht, e1, e2, Option.some.injEq] at hk
        exact ⟨hk.symm, by simp only [kindOf, hop, hs, ht, e1, e2]⟩
      · rename_i e1 e2
        obtain ⟨a, a', h1, h2, h3⟩ := evV_sim hf h
        obtain ⟨v, hv, h1⟩ := Option.bind_eq_some_iff.1 h1
        obtain ⟨v', g1, g2⟩ := qStr_sim hv h2
        refine opR_plain hS hf h1 (.val g2) (fun k' => by simp only [opC, hop, hs, ht, e1, e2, h3, g1, Option.bind_some]) (fun kd hk => ?_)
        simp only [kindW, hop, hs, ht, e1, e2, Option.some.injEq] at hk
        exact ⟨hk.symm, by simp only [kindOf, hop, hs, ht, e1, e2]⟩
      · rename_i e e1 e2
        split at h
        · rename_i a1 a2 a3 a4 hte
          obtain ⟨a, a', h1, h2, h3⟩ := evV_sim hf h
          obtain ⟨v, hv, h1⟩ := Option.bind_eq_some_iff.1 h1
          obtain ⟨v', g1, g2⟩ := qB2S_sim hS hv h2
          refine opR_mk hS hf rfl h1 g2 hS (Later.refl S) (fun _ _ => rfl) (fun k' => by simp only [opC, hop, hs, ht, e1, e2, hte, h3, g1, Option.bind_some]) (fun kd hk => .inr ?_)
          simp only [kindW, hop, hs, ht, e1, e2, Option.some.injEq] at hk
          exact ⟨_, hk.symm, by simp only [kindOf, hop, hs, ht, e1, e2]⟩
        · cases h
      · rename_i e e1 e2
        split at h
        · rename_i a1 a2 a3 a4 d hte hd
          obtain ⟨a, a', h1, h2, h3⟩ := evV_sim hf h
          obtain ⟨r, hr, h1⟩ := Option.bind_eq_some_iff.1 h1
          obtain ⟨S1, v', g0, g1, g2, g3, g4, g5⟩ := qS2B_sim hS hr h2
          refine opR_mk hS hf g0 h1 g2 g3 g4 g5 (fun k' => by simp only [opC, hop, hs, ht, e1, e2, hte, h3, g1, Option.bind_some]) (fun kd hk => .inr ?_)
          simp only [kindW, hop, hs, ht, e1, e2, Option.some.injEq] at hk
          exact ⟨_, hk.symm, by simp only [kindOf, hop, hs, ht, e1, e2]⟩
        · cases h
      · cases h
theorem sim_makeFunc (hS : HOk S) (hf : FrRel S fr fr') {g : Fn} {a b : Array Operand} (hop : o.op = .makeFunc g a b) (h : opW P call f o fr S.μ k = some res) : OpR P cal f o fr fr' S k res := by
  cases g with
  | func g =>
    simp only [opW, hop] at h
    obtain ⟨x, x', h1, h2, h3⟩ := evVs_sim hf h
    obtain ⟨y, y', g1, g2, g3⟩ := evVs_sim hf h1
    refine opR_plain hS hf g1 (.val (.fn g x y x' y' h2 g2)) (fun k' => by simp only [opC, hop, h3, g3]) (fun kd hk => ?_)
    simp only [kindW, hop, Option.some.injEq] at hk
    exact ⟨hk.symm, by simp only [kindOf, hop]⟩
  | _ => simp only [opW, hop, reduceCtorEq] at h
theorem sim_makeSlice (hG : ∀ T ti, P.E.ti T = some ti → tiGood ti = true) (hS : HOk S) (hf : FrRel S fr fr') {T : TypeId} {l c : Operand} (hop : o.op = .makeSlice T l c) (h : opW P call f o fr S.μ k = some res) : OpR P cal f o fr fr' S k res := by
  simp only [opW, hop] at h
  split at h
  · rename_i a1 a2 a3 a4 e hti
    split at h
    · rename_i te hte
      obtain ⟨hz, _, _⟩ := tiGood_const (hG e te hte)
      obtain ⟨x, x', h1, h2, h3⟩ := evV_sim hf h
      obtain ⟨y, y', g1, g2, g3⟩ := evV_sim hf h1
      obtain ⟨r, hr, g1⟩ := Option.bind_eq_some_iff.1 g1
      obtain ⟨S1, v', e0, e1, e2, e3, e4, e5⟩ := qMS_sim hS hz hr h2 g2
      refine opR_mk hS hf e0 g1 e2 e3 e4 e5 (fun k' => by simp only [opC, hop, hti, hte, h3, g3, e1, Option.bind_some]) (fun kd hk => .inl ?_)
      simp only [kindW, hop, Option.some.injEq] at hk
      exact ⟨hk.symm, by simp only [kindOf, hop]⟩
    · cases h
  · cases h
theorem sim_slice (hS : HOk S) (hf : FrRel S fr fr') {T : TypeId} {x : Operand} {lo hi mx : Option Operand} (hop : o.op = .slice T x lo hi mx) (h : opW P call f o fr S.μ k = some res) : OpR P cal f o fr fr' S k res := by
  have hkd : ∀ v kd, kindW P f o fr = some kd → kd = .plain ∧ kindOf P.E f o fr' (some v) = some .plain := fun v kd hk => by
    simp only [kindW, hop, Option.some.injEq] at hk
    exact ⟨hk.symm, by simp only [kindOf, hop]⟩
  simp only [opW, hop] at h
  split at h
  · rename_i a1 a2 a3 a4 e hti
    split at h
    · rename_i te hte
      obtain ⟨a, a', h1, h2, h3⟩ := evV_sim hf h
      obtain ⟨b, b', g1, g2, g3⟩ := evO_sim hf h1
      obtain ⟨c, c', e1, e2, e3⟩ := evO_sim hf g1
      obtain ⟨d, d', q1, q2, q3⟩ := evO_sim hf e1
      obtain ⟨v, hv, q1⟩ := Option.bind_eq_some_iff.1 q1
      obtain ⟨v', r1, r2⟩ := qSl_sim hv h2 g2 e2 q2
      exact opR_plain hS hf q1 (.val r2) (fun k' => by simp only [opC, hop, hti, hte, h3, g3, e3, q3, r1, Option.bind_some]) (hkd _)
    · cases h
  · rename_i a1 a2 a3 a4 hti
    cases mx with
    | some m => cases h
    | none =>
      simp only at h
      obtain ⟨a, a', h1, h2, h3⟩ := evV_sim hf h
      obtain ⟨b, b', g1, g2, g3⟩ := evO_sim hf h1
      obtain ⟨c, c', e1, e2, e3⟩ := evO_sim hf g1
      obtain ⟨v, hv, e1⟩ := Option.bind_eq_some_iff.1 e1
      obtain ⟨v', r1, r2⟩ := qSs_sim hv h2 g2 e2
      exact opR_plain hS hf e1 (.val r2) (fun k' => by simp only [opC, hop, hti, h3, g3, e3, r1, Option.bind_some]) (hkd _)
  · cases h
theorem sim_build (hG : ∀ T ti, P.E.ti T = some ti → tiGood ti = true) (hS : HOk S) (hf : FrRel S fr fr') {T : TypeId} {ps : Array (Nat × Operand)} (hop : o.op = .build T ps) (h : opW P call f o fr S.μ k = some res) : OpR P cal f o fr fr' S k res := by
  simp only [opW, hop] at h
  split at h
  · rename_i a1 a2 a3 z fs hti
    obtain ⟨hz, _, _⟩ := tiGood_const (hG T _ hti)
    obtain ⟨l, l', h1, h2, h3⟩ := evPs_sim hf h
    obtain ⟨v, hv, h1⟩ := Option.bind_eq_some_iff.1 h1
    obtain ⟨v', g1, g2⟩ := qBuild_sim hz hv h2
    refine opR_plain hS hf h1 (.val g2) (fun k' => by simp only [opC, hop, hti, h3, g1, Option.bind_some]) (fun kd hk => ?_)
    simp only [kindW, hop, Option.some.injEq] at hk
    exact ⟨hk.symm, by simp only [kindOf, hop]⟩
  · cases h
theorem sim_buildSlice (hG : ∀ T ti, P.E.ti T = some ti → tiGood ti = true) (hS : HOk S) (hf : FrRel S fr fr') {T : TypeId} {n : Nat} {ps : Array (Nat × Operand)} (hop : o.op = .buildSlice T n ps) (h : opW P call f o fr S.μ k = some res) : OpR P cal f o fr fr' S k res := by
  simp only [opW, hop] at h
  split at h
  · rename_i a1 a2 a3 a4 e d hti hd
    split at h
    · rename_i te hte
      obtain ⟨hz, _, _⟩ := tiGood_const (hG e te hte)
      obtain ⟨l, l', h1, h2, h3⟩ := evPs_sim hf h
      obtain ⟨r, hr, h1⟩ := Option.bind_eq_some_iff.1 h1
      obtain ⟨S1, v', e0, e1, e2, e3, e4, e5⟩ := qBS_sim hS hz hr h2
      refine opR_mk hS hf e0 h1 e2 e3 e4 e5 (fun k' => by simp only [opC, hop, hti, hte, h3, e1, Option.bind_some]) (fun kd hk => .inl ?_)
      simp only [kindW, hop, Option.some.injEq] at hk
      exact ⟨hk.symm, by simp only [kindOf, hop]⟩
    · cases h
  · cases h
theorem sim_extract (hS : HOk S) (hf : FrRel S fr fr') {x : Operand} {i : Nat} (hop : o.op = .extract x i) (h : opW P call f o fr S.μ k = some res) : OpR P cal f o fr fr' S k res := by
  simp only [opW, hop] at h
  obtain ⟨y, y', h1, h2, h3⟩ := ev_sim hf h
  cases h2 with
  | tup hl =>
    simp only at h1
    split at h1
    · rename_i v hv
      obtain ⟨v', e1, e2⟩ := hl.get hv
      refine opR_plain hS hf h1 (.val e2) (fun k' => by simp only [opC, hop, h3, e1]) (fun kd hk => ?_)
      simp only [kindW, hop, Option.some.injEq] at hk
      exact ⟨hk.symm, by simp only [kindOf, hop]⟩
    · cases h1
  | _ => cases h1
end
end Go.Lg.Pv
namespace Go.Lg.Pv
open Go Go.Lg
set_option linter.unusedVariables false
set_option linter.unnecessarySimpa false
set_option linter.unusedSimpArgs false
set_option linter.unusedSectionVars false

section
variable {α : Type} {res : α} {P : PEnv} {call : CW} {cal : Cal} {f : Nat} {o : Oper} {fr : DFr} {fr' : Fr} {S : St} {k : Option DF → List (Nat × List DV) → PH → Option α}

/-- the results of a call are put where they belong -/
theorem sim_res (hS : HOk S) (hf : FrRel S fr fr') {r : List DV} {vres : List Value} {S1 : St} {kk : DF → Option α} (hr : TVs S1 r vres)
    (h : (match P.E.tup o.type with
        | none => dN 1 r fun l => (match l with | [v] => kk (.val v) | _ => none)
        | some n => cond (Nat.beq n 1) none (dN n r fun l => kk (.tup l))) = some res) :
    ∃ x x', kk x = some res ∧ FRel S1 x x' ∧ ∀ {β : Type} (k' : FV → Option β), (match P.E.tup o.type with
        | none => unN 1 vres fun l => (match l with | [v] => k' (.val v) | _ => none)
        | some n => cond (Nat.beq n 1) none (unN n vres fun l => k' (.tup l))) = k' x' := by
  cases ht : P.E.tup o.type with
  | none =>
    rw [ht] at h
    simp only at h
    obtain ⟨h1, h2⟩ := dN_some h
    match r, h1, hr with
    | [v], _, .cons hv .nil => exact ⟨.val v, .val _, h2, .val hv, fun k' => rfl⟩
  | some n =>
    rw [ht] at h
    simp only at h
    cases hb : Nat.beq n 1 with
    | true => rw [hb] at h; cases h
    | false =>
      rw [hb] at h
      simp only [cond_false] at h
      obtain ⟨h1, h2⟩ := dN_some h
      exact ⟨.tup r, .tup vres, h2, .tup hr, fun k' => by simp only [hb, cond_false]; rw [unN_of (by rw [← hr.len]; exact h1)]⟩

theorem sim_callF (hw : WSim P call cal) (hS : HOk S) (hf : FrRel S fr fr') {g : Nat} {args : Array Operand} {ts : Array TypeId} (hop : o.op = .call ⟨.value (.func g), args, ts⟩) (h : opW P call f o fr S.μ k = some res) : OpR P cal f o fr fr' S k res := by
  simp only [opW, hop] at h
  obtain ⟨l, l', h1, h2, h3, h4⟩ := evVs_both hf h
  obtain ⟨r, hr, h1⟩ := Option.bind_eq_some_iff.1 h1
  obtain ⟨vres, S1, e1, e2, e3, e4, e5, e6⟩ := hw g l r.1 r.2 S l' hr hS h2
  rw [← e2] at h1
  obtain ⟨x, x', g1, g2, g3⟩ := sim_res (P := P) (o := o) (kk := fun x => k (some x) fr.regs S1.μ) hS hf e4 h1
  refine ⟨_, _, S1, some x', fr'.regs, g1, fun k' => ?_, e3, e5, .some g2, hf.rg.later e5 hS, fun kd hk => ?_⟩
  · simp only [opC, hop, Fr.evV, Fr.ev, asF, h3, List.nil_append, List.append_nil, Array.toList_empty, e1, Option.bind_some]
    exact g3 (fun x => k' (some x) fr'.regs S1.σ)
  · simp only [kindW, hop, Option.some.injEq] at hk
    subst hk
    refine ⟨.eff, by simp only [kindOf, hop], .eff fun l0 hl => ?_⟩
    cases hsg : P.sig g with
    | none => rw [hsg] at hl; simp [tchW] at hl
    | some sg =>
      rw [hsg] at hl
      simp only [tchW, cond_false, Option.some.injEq] at hl
      subst hl
      exact (e6 (by rw [hsg]; nofun)).mono (h4 _ fun x hx => hx)
theorem sim_callV (hc : CSim call cal) (hS : HOk S) (hf : FrRel S fr fr') {g : Operand} (hg : ∀ n, g ≠ .func n) {args : Array Operand} {ts : Array TypeId} (hop : o.op = .call ⟨.value g, args, ts⟩) (h : opW P call f o fr S.μ k = some res) : OpR P cal f o fr fr' S k res := by
  have h' : (fr.evV g fun g => qF g fun g a b => fr.evVs args.toList fun l =>
      (call g (a ++ l ++ b) S.μ).bind fun r => (match P.E.tup o.type with
        | none => dN 1 r.1 fun l => (match l with | [v] => k (some (.val v)) fr.regs r.2 | _ => none)
        | some n => cond (Nat.beq n 1) none (dN n r.1 fun l => k (some (.tup l)) fr.regs r.2))) = some res := by
    cases g <;> first | exact absurd rfl (hg _) | (simp only [opW, hop] at h; exact h)
  obtain ⟨gv, gv', h1, h2, h3⟩ := evV_sim hf h'
  obtain ⟨fn, a, b, rfl, h1⟩ := qF_some h1
  obtain ⟨a', b', rfl, ha, hb⟩ := h2.fn_inv
  obtain ⟨l, l', g1, g2, g3⟩ := evVs_sim hf h1
  obtain ⟨r, hr, g1⟩ := Option.bind_eq_some_iff.1 g1
  obtain ⟨vres, S1, e1, e2, e3, e4, e5⟩ := hc fn _ r.1 r.2 S _ hr hS ((ha.append g2).append hb)
  rw [← e2] at g1
  obtain ⟨x, x', q1, q2, q3⟩ := sim_res (P := P) (o := o) (kk := fun x => k (some x) fr.regs S1.μ) hS hf e4 g1
  refine ⟨_, _, S1, some x', fr'.regs, q1, fun k' => ?_, e3, e5, .some q2, hf.rg.later e5 hS, fun kd hk => ?_⟩
  · simp only [opC, hop, h3, asF, g3, e1, Option.bind_some]
    exact q3 (fun x => k' (some x) fr'.regs S1.σ)
  · have hkd : kd = .eff none := by
      cases g <;> first | exact absurd rfl (hg _) | (simp only [kindW, hop, Option.some.injEq, tchW, cond_true] at hk; exact hk.symm)
    subst hkd
    exact ⟨.eff, by simp only [kindOf, hop], .eff fun l0 hl => by cases hl⟩

theorem sim_builtin (hG : ∀ T ti, P.E.ti T = some ti → tiGood ti = true) (hS : HOk S) (hf : FrRel S fr fr') {g : Builtin} {args : Array Operand} {ts : Array TypeId} (hop : o.op = .call ⟨.builtin g, args, ts⟩) (h : opW P call f o fr S.μ k = some res) : OpR P cal f o fr fr' S k res := by
  cases g with
  | len =>
    simp only [opW, hop] at h
    have hkd : ∀ v kd, kindW P f o fr = some kd → kd = .plain ∧ kindOf P.E f o fr' (some v) = some .plain := fun v kd hk => by
      simp only [kindW, hop, Option.some.injEq] at hk
      exact ⟨hk.symm, by simp only [kindOf, hop]⟩
    split at h
    · rename_i x T hx hT
      split at h
      · rename_i a1 a2 a3 a4 e hti
        obtain ⟨y, y', h1, h2, h3⟩ := evV_sim hf h
        obtain ⟨v, hv, h1⟩ := Option.bind_eq_some_iff.1 h1
        obtain ⟨v', e1, e2⟩ := qLen_sim hv h2
        exact opR_plain hS hf h1 (.val e2) (fun k' => by simp only [opC, hop, hx, hT, hti, h3, e1, Option.bind_some]) (hkd _)
      · rename_i a1 a2 a3 a4 hti
        obtain ⟨y, y', h1, h2, h3⟩ := evV_sim hf h
        obtain ⟨v, hv, h1⟩ := Option.bind_eq_some_iff.1 h1
        obtain ⟨v', e1, e2⟩ := qLs_sim hv h2
        exact opR_plain hS hf h1 (.val e2) (fun k' => by simp only [opC, hop, hx, hT, hti, h3, e1, Option.bind_some]) (hkd _)
      · cases h
    · cases h
  | cap =>
    simp only [opW, hop] at h
    have hkd : ∀ v kd, kindW P f o fr = some kd → kd = .plain ∧ kindOf P.E f o fr' (some v) = some .plain := fun v kd hk => by
      simp only [kindW, hop, Option.some.injEq] at hk
      exact ⟨hk.symm, by simp only [kindOf, hop]⟩
    split at h
    · rename_i x T hx hT
      split at h
      · rename_i a1 a2 a3 a4 e hti
        obtain ⟨y, y', h1, h2, h3⟩ := evV_sim hf h
        obtain ⟨v, hv, h1⟩ := Option.bind_eq_some_iff.1 h1
        obtain ⟨v', e1, e2⟩ := qCap_sim hv h2
        exact opR_plain hS hf h1 (.val e2) (fun k' => by simp only [opC, hop, hx, hT, hti, h3, e1, Option.bind_some]) (hkd _)
      · cases h
    · cases h
  | min =>
    simp only [opW, hop] at h
    split at h
    · rename_i x y hx
      obtain ⟨a, a', h1, h2, h3⟩ := evV_sim hf h
      obtain ⟨b, b', g1, g2, g3⟩ := evV_sim hf h1
      obtain ⟨v, hv, g1⟩ := Option.bind_eq_some_iff.1 g1
      obtain ⟨v', e1, e2⟩ := qMin_sim hv h2 g2
      refine opR_plain hS hf g1 (.val e2) (fun k' => by simp only [opC, hop, hx, h3, g3, e1, Option.bind_some]) (fun kd hk => ?_)
      simp only [kindW, hop, Option.some.injEq] at hk
      exact ⟨hk.symm, by simp only [kindOf, hop]⟩
    · cases h
  | max =>
    simp only [opW, hop] at h
    split at h
    · rename_i x y hx
      obtain ⟨a, a', h1, h2, h3⟩ := evV_sim hf h
      obtain ⟨b, b', g1, g2, g3⟩ := evV_sim hf h1
      obtain ⟨v, hv, g1⟩ := Option.bind_eq_some_iff.1 g1
      obtain ⟨v', e1, e2⟩ := qMax_sim hv h2 g2
      refine opR_plain hS hf g1 (.val e2) (fun k' => by simp only [opC, hop, hx, h3, g3, e1, Option.bind_some]) (fun kd hk => ?_)
      simp only [kindW, hop, Option.some.injEq] at hk
      exact ⟨hk.symm, by simp only [kindOf, hop]⟩
    · cases h
  | append =>
    have hkd : ∀ kd, kindW P f o fr = some kd → kd = .eff (some (idsL (argW fr args.toList))) := fun kd hk => by
      simp only [kindW, hop, Option.some.injEq] at hk; exact hk.symm
    simp only [opW, hop] at h
    split at h
    · rename_i x y T U hx hT
      split at h
      · rename_i a1 a2 a3 a4 e u d hti hu hd
        have gen : ∀ te, P.E.ti e = some te → ((∃ q, u.shape = .slice q) ∨ u.shape = .str) → (fr.evV x fun x => fr.evV y fun y => (qAp S.μ (P.opn f d) (P.sh e) te.size te.bytes x y).bind fun r => k (some (.val r.1)) fr.regs r.2) = some res → OpR P cal f o fr fr' S k res := fun te hte hsh hq => by
          obtain ⟨a, a', h1, h2, h3, h4⟩ := evV_both hf hq
          obtain ⟨b, b', g1, g2, g3⟩ := evV_sim hf h1
          obtain ⟨r, hr, g1⟩ := Option.bind_eq_some_iff.1 g1
          obtain ⟨S1, v', e0, e1, e2, e3, e4, e5⟩ := qAp_sim hS hr h2 g2
          rw [← e0] at g1
          refine ⟨_, _, S1, some (.val v'), fr'.regs, g1, fun k' => ?_, e3, e4, .some (.val e2), hf.rg.later e4 hS, fun kd hk => ?_⟩
          · rcases hsh with ⟨q, hsh⟩ | hsh <;> simp only [opC, hop, hx, hT, hti, hu, hte, hsh, h3, g3, e1, Option.bind_some]
          · rw [hkd kd hk]
            refine ⟨.eff, by simp only [kindOf, hop], .eff fun l hl => ?_⟩
            cases hl
            exact e5.mono (h4 _ (by rw [hx]; exact .head _))
        split at h
        · rename_i te q hte hsh; exact gen te hte (.inl ⟨q, hsh⟩) h
        · rename_i te hte hsh; exact gen te hte (.inr hsh) h
        · cases h
      · cases h
    · cases h
  | copy =>
    have hkd : ∀ kd, kindW P f o fr = some kd → kd = .eff (some (idsL (argW fr args.toList))) := fun kd hk => by
      simp only [kindW, hop, Option.some.injEq] at hk; exact hk.symm
    simp only [opW, hop] at h
    split at h
    · rename_i x y T Us hx hT
      split at h
      · rename_i a1 a2 a3 a4 e hti
        split at h
        · rename_i te hte
          obtain ⟨a, a', h1, h2, h3, h4⟩ := evV_both hf h
          obtain ⟨b, b', g1, g2, g3⟩ := evV_sim hf h1
          obtain ⟨r, hr, g1⟩ := Option.bind_eq_some_iff.1 g1
          obtain ⟨S1, v', e0, e1, e2, e3, e4, e5⟩ := qCp_sim hS hr h2 g2
          rw [← e0] at g1
          refine ⟨_, _, S1, some (.val v'), fr'.regs, g1, fun k' => by simp only [opC, hop, hx, hT, hti, hte, h3, g3, e1, Option.bind_some], e3, e4, .some (.val e2), hf.rg.later e4 hS, fun kd hk => ?_⟩
          rw [hkd kd hk]
          refine ⟨.eff, by simp only [kindOf, hop], .eff fun l hl => ?_⟩
          cases hl
          exact e5.mono (h4 _ (by rw [hx]; exact .head _))
        · cases h
      · cases h
    · cases h
  | clear =>
    have hkd : ∀ kd, kindW P f o fr = some kd → kd = .eff (some (idsL (argW fr args.toList))) := fun kd hk => by
      simp only [kindW, hop, Option.some.injEq] at hk; exact hk.symm
    simp only [opW, hop] at h
    split at h
    · rename_i x T hx hT
      split at h
      · rename_i a1 a2 a3 a4 e hti
        split at h
        · rename_i te hte
          obtain ⟨hz, _, _⟩ := tiGood_const (hG e te hte)
          obtain ⟨a, a', h1, h2, h3, h4⟩ := evV_both hf h
          obtain ⟨μ1, hr, h1⟩ := Option.bind_eq_some_iff.1 h1
          obtain ⟨S1, e0, e1, e3, e4, e5⟩ := qClr_sim hS hz hr h2
          rw [← e0] at h1
          refine ⟨_, _, S1, some (.tup []), fr'.regs, h1, fun k' => by simp only [opC, hop, hx, hT, hti, hte, h3, e1, Option.bind_some], e3, e4, .some (.tup .nil), hf.rg.later e4 hS, fun kd hk => ?_⟩
          rw [hkd kd hk]
          refine ⟨.eff, by simp only [kindOf, hop], .eff fun l hl => ?_⟩
          cases hl
          exact e5.mono (h4 _ (by rw [hx]; exact .head _))
        · cases h
      · cases h
    · cases h
  | _ => simp only [opW, hop, reduceCtorEq] at h

/-- any operation -/
theorem opW_sim (hG : ∀ T ti, P.E.ti T = some ti → tiGood ti = true) (hw : WSim P call cal) (hc : CSim call cal) (hS : HOk S) (hf : FrRel S fr fr') (h : opW P call f o fr S.μ k = some res) : OpR P cal f o fr fr' S k res := by
  have hplain : ∀ v kd, (∀ x, o.op = .move x → kindW P f o fr = some kd → kd = .plain ∧ kindOf P.E f o fr' (some v) = some .plain) := fun v kd x hop hk => by
    simp only [kindW, hop, Option.some.injEq] at hk
    exact ⟨hk.symm, by simp only [kindOf, hop]⟩
  cases hop : o.op with
  | move x =>
    have h := h
    simp only [opW, hop] at h
    obtain ⟨y, y', h1, h2, h3⟩ := ev_sim hf h
    exact opR_plain hS hf h1 h2 (fun k' => by simp only [opC, hop, h3]) fun kd hk => hplain _ kd x hop hk
  | assign x =>
    have h := h
    simp only [opW, hop] at h
    obtain ⟨y, y', h1, h2, h3⟩ := ev_sim hf h
    refine opR_plain hS hf h1 h2 (fun k' => by simp only [opC, hop, h3]) fun kd hk => ?_
    simp only [kindW, hop, Option.some.injEq] at hk
    exact ⟨hk.symm, by simp only [kindOf, hop]⟩
  | pick c a b =>
    have h := h
    simp only [opW, hop] at h
    obtain ⟨y, y', h1, h2, h3⟩ := evV_sim hf h
    obtain ⟨t, rfl, h1⟩ := qB_some h1
    have := h2.bool_inv; subst this
    have hkd : ∀ v kd, kindW P f o fr = some kd → kd = .plain ∧ kindOf P.E f o fr' (some v) = some .plain := fun v kd hk => by
      simp only [kindW, hop, Option.some.injEq] at hk
      exact ⟨hk.symm, by simp only [kindOf, hop]⟩
    cases t with
    | true =>
      obtain ⟨z, z', g1, g2, g3⟩ := ev_sim hf (x := a) (k := fun v => k (some v) fr.regs S.μ) h1
      exact opR_plain hS hf g1 g2 (fun k' => by simp only [opC, hop, h3, asB, cond_true, g3]) (hkd _)
    | false =>
      obtain ⟨z, z', g1, g2, g3⟩ := ev_sim hf (x := b) (k := fun v => k (some v) fr.regs S.μ) h1
      exact opR_plain hS hf g1 g2 (fun k' => by simp only [opC, hop, h3, asB, cond_false, g3]) (hkd _)
  | alloc T => exact sim_alloc hG hS hf hop h
  | box T x => exact sim_box hG hS hf hop h
  | build T ps => exact sim_build hG hS hf hop h
  | buildSlice T n ps => exact sim_buildSlice hG hS hf hop h
  | load T x => exact sim_load hG hS hf hop h
  | store T x y => exact sim_store hS hf hop h
  | nilCheck x => exact sim_nilCheck hS hf hop h
  | binOp op T x y z => exact sim_binOp hS hf hop h
  | unOp op T x => exact sim_unOp hS hf hop h
  | convert A T x => exact sim_convert hS hf hop h
  | makeFunc g a b => exact sim_makeFunc hS hf hop h
  | makeSlice T l c => exact sim_makeSlice hG hS hf hop h
  | fieldAddr T x i => exact sim_fieldAddr hS hf hop h
  | field T x i => exact sim_field hS hf hop h
  | indexAddr T x i => exact sim_indexAddr hS hf hop h
  | index T x i => exact sim_index hS hf hop h
  | slice T x lo hi mx => exact sim_slice hS hf hop h
  | extract x i => exact sim_extract hS hf hop h
  | call c =>
    obtain ⟨cal, args, ts⟩ := c
    cases cal with
    | value g =>
      by_cases hg : ∃ n, g = .func n
      · obtain ⟨n, rfl⟩ := hg
        exact sim_callF hw hS hf hop h
      · exact sim_callV hc hS hf (fun n hn => hg ⟨n, hn⟩) hop h
    | builtin b => exact sim_builtin hG hS hf hop h
    | _ => simp only [opW, hop, reduceCtorEq] at h
  | _ => simp only [opW, hop, reduceCtorEq] at h
end
end Go.Lg.Pv
namespace Go.Lg.Pv
open Go Go.Lg
set_option linter.unusedVariables false
set_option linter.unnecessarySimpa false
set_option linter.unusedSimpArgs false
set_option linter.unusedSectionVars false

section
variable {α : Type} {res : α} {P : PEnv} {call : CW} {cal : Cal} {f : Nat}

/-- a guard: either way is taken on both sides -/
theorem grd_sim {S : St} {fr : DFr} {fr' : Fr} (hf : FrRel S fr fr') {all : List Oper} {o : Oper} {run skip : DFr → Option α} (h : grdW all o fr run skip = some res) :
    ∃ fr1 fr1', FrRel S fr1 fr1' ∧ fr1.n = fr.n ∧ ((run fr1 = some res ∧ ∀ {β : Type} (run' skip' : Fr → Option β), grd all o fr' run' skip' = run' fr1') ∨ (skip fr1 = some res ∧ ∀ {β : Type} (run' skip' : Fr → Option β), grd all o fr' run' skip' = skip' fr1')) := by
  unfold grdW at h
  cases hg : o.guard with
  | none =>
    rw [hg] at h
    exact ⟨fr, fr', hf, rfl, .inl ⟨h, fun run' skip' => by simp only [grd, hg]⟩⟩
  | some jw =>
    obtain ⟨j, want⟩ := jw
    rw [hg] at h
    simp only at h
    cases ht : (all[j]?).bind (·.dst) with
    | none => rw [ht] at h; cases h
    | some t =>
      rw [ht] at h
      simp only at h
      rcases hf.ts.look t with ⟨h1, h2⟩ | ⟨x, y, h1, h2, h3⟩
      · rw [h1] at h; cases h
      · rw [h1] at h
        cases h3 with
        | none => cases h
        | some h3 =>
          cases h3 with
          | val hv =>
            simp only at h
            obtain ⟨b, rfl, h⟩ := qB_some h
            have := hv.bool_inv; subst this
            have hfb : ∀ b, FrRel S ⟨fr.n, (t, some (.val (.bool b))) :: fr.tmps, fr.regs⟩ ⟨fr'.n, (t, some (.val (.bool b))) :: fr'.tmps, fr'.regs⟩ := fun b => ⟨hf.n, .cons (.some (.val (.bool b))) hf.ts, hf.rg⟩
            refine ⟨_, _, hfb b, rfl, ?_⟩
            cases b <;> cases want <;> simp only [cond_true, cond_false] at h
            · exact .inl ⟨h, fun run' skip' => by simp only [grd, hg, ht, h2, asB, cond_true, cond_false]⟩
            · exact .inr ⟨h, fun run' skip' => by simp only [grd, hg, ht, h2, asB, cond_true, cond_false]⟩
            · exact .inr ⟨h, fun run' skip' => by simp only [grd, hg, ht, h2, asB, cond_true, cond_false]⟩
            · exact .inl ⟨h, fun run' skip' => by simp only [grd, hg, ht, h2, asB, cond_true, cond_false]⟩
          | und => exact ⟨fr, fr', hf, rfl, .inr ⟨h, fun run' skip' => by simp only [grd, hg, ht, h2]⟩⟩
          | reg => cases h
          | tup => cases h

def RegR (S : St) (fr : DFr) (k : DFr → PH → Option α) (res : α) (run' : ∀ {β : Type}, (Fr → LH → Option β) → Option β) : Prop :=
  ∃ fr1 S1 fr1', k fr1 S1.μ = some res ∧ (∀ {β : Type} (k' : Fr → LH → Option β), run' k' = k' fr1' S1.σ) ∧ FrRel S1 fr1 fr1' ∧ HOk S1 ∧ Later S S1

theorem opsW_sim (hG : ∀ T ti, P.E.ti T = some ti → tiGood ti = true) (hw : WSim P call cal) (hc : CSim call cal) {all : List Oper} : ∀ {l : List Oper} {S : St} {fr : DFr} {fr' : Fr} {k : DFr → PH → Option α}, HOk S → FrRel S fr fr' →
    opsW P call f all l fr S.μ k = some res → RegR S fr k res (fun k' => opsC P.E cal f all l fr' S.σ k')
  | [], S, fr, fr', k, hS, hf, h => ⟨fr, S, fr', h, fun k' => rfl, hf, hS, Later.refl S⟩
  | o :: l, S, fr, fr', k, hS, hf, h => by
    simp only [opsW] at h
    cases hd : dstOk o fr.n with
    | false => rw [hd] at h; cases h
    | true =>
      rw [hd] at h; simp only [cond_true] at h
      obtain ⟨fr1, fr1', g1, g2, g3⟩ := grd_sim hf h
      have hd' : dstOk o fr'.n = true := by rw [← hf.n]; exact hd
      rcases g3 with ⟨g3, g4⟩ | ⟨g3, g4⟩
      · obtain ⟨x, regs, S1, x', regs', e1, e2, e3, e4, e5, e6, _⟩ := opW_sim hG hw hc hS g1 g3
        obtain ⟨fr2, S2, fr2', q1, q2, q3, q4, q5⟩ := opsW_sim hG hw hc e3 ((g1.later e4 hS).put e6 o.dst e5) e1
        exact ⟨fr2, S2, fr2', q1, fun k' => by simp only [opsC, hd', cond_true, g4, e2]; exact q2 k', q3, q4, Later.trans e4 q5⟩
      · obtain ⟨fr2, S2, fr2', q1, q2, q3, q4, q5⟩ := opsW_sim hG hw hc hS (g1.put g1.rg o.dst (.some .und)) g3
        exact ⟨fr2, S2, fr2', q1, fun k' => by simp only [opsC, hd', cond_true, g4]; exact q2 k', q3, q4, q5⟩

/-! ## regions that draw their order -/
/-- what is logged, and still holds -/
inductive LR (S : St) : Kw → Kd → Prop where
  | plain : LR S .plain .plain
  | mk : LR S .mk .mk
  | ld {p : DV} {p' v' : Value} {size : Nat} {agg : Bool} : TV S p p' → pLd S.σ size agg p' = some v' → LR S (.ld p) (.ld p' size agg v')
  | eff (t : Option (List Nat)) : LR S (.eff t) .eff
  | gone (p' v' : Value) (size : Nat) (agg : Bool) : LR S .gone (.ld p' size agg v')
inductive LogR (S : St) : List EntW → List Ent → Prop where
  | nil : LogR S [] []
  | cons {i : Nat} {a : Kw} {b : Kd} {σ : LH} {g : List EntW} {g' : List Ent} : LR S a b → LogR S g g' → LogR S (⟨i, a⟩ :: g) (⟨i, b, σ⟩ :: g')

theorem pLd_lt {σ : LH} (hm : MD σ) {size : Nat} {agg : Bool} {p v : Value} (h : pLd σ size agg p = some v) : ∃ a, p = .pointer (some a) ∧ a.block < σ.next := by
  unfold pLd at h
  split at h
  · rename_i a
    split at h
    · rename_i b hb; exact ⟨a, rfl, hm.lt hb⟩
    · cases h
  · cases h
theorem pLd_same {σ σ' : LH} {size : Nat} {agg : Bool} {a : Addr} (h : σ'.mem a.block = σ.mem a.block) : pLd σ' size agg (.pointer (some a)) = pLd σ size agg (.pointer (some a)) := by
  simp only [pLd, h]
theorem chk_self {β : Type} {x : Option Value} {v : Value} (h : x = some v) (k : Option β) : chk x v k = k := by
  unfold chk
  cases beqO x v with
  | true => rfl
  | false => simp [h]
theorem LR.low {S S1 : St} (hS : HOk S) (hL : Later S S1) (hlow : ∀ k, k < S.σ.next → S1.σ.mem k = S.σ.mem k) {a : Kw} {b : Kd} (h : LR S a b) : LR S1 a b := by
  cases h with
  | plain => exact .plain
  | mk => exact .mk
  | ld hp hv =>
    obtain ⟨ad, rfl, hlt⟩ := pLd_lt hS.md hv
    exact .ld (hp.later hL hS) (by rw [pLd_same (hlow _ hlt)]; exact hv)
  | eff t => exact .eff t
  | gone p v s ag => exact .gone p v s ag
theorem LogR.low {S S1 : St} (hS : HOk S) (hL : Later S S1) (hlow : ∀ k, k < S.σ.next → S1.σ.mem k = S.σ.mem k) {g : List EntW} {g' : List Ent} (h : LogR S g g') : LogR S1 g g' := by
  induction h with
  | nil => exact .nil
  | cons h _ ih => exact .cons (h.low hS hL hlow) ih

theorem stand_some {p : DV} {t : Option (List Nat)} {μ : PH} {k : Option α} (h : stand p t μ k = some res) : k = some res ∧ ((∃ e off, p = .rp e off) ∨ ∃ id ver i off l, p = .ptr id ver i off ∧ t = some l ∧ (bk μ id ver).isSome = true ∧ id ∉ l) := by
  cases p with
  | rp e off => exact ⟨h, .inl ⟨e, off, rfl⟩⟩
  | ptr id ver i off =>
    simp only [stand] at h
    cases t with
    | none => cases h
    | some l =>
      simp only at h
      split at h
      · rename_i hc; exact ⟨h, .inr ⟨id, ver, i, off, l, rfl, rfl, hc⟩⟩
      · cases h
  | _ => cases h

theorem ld_stands {S S1 : St} (hS : HOk S) (hL : Later S S1) {p : DV} {p' v' : Value} {size : Nat} {agg : Bool} (hp : TV S p p') (hv : pLd S.σ size agg p' = some v')
    (h : (∃ e off, p = .rp e off) ∨ ∃ id ver i off l, p = .ptr id ver i off ∧ (bk S1.μ id ver).isSome = true ∧ id ∉ l ∧ Tch S S1 l) : pLd S1.σ size agg p' = some v' := by
  rcases h with ⟨e, off, rfl⟩ | ⟨id, ver, i, off, l, rfl, h1, h2, h3⟩
  · obtain ⟨b, o, blk, rfl, h0, _⟩ := hp.rp_inv
    obtain ⟨z1, z2⟩ := hS.zg b h0
    rw [pLd_same (hL.fr b z1 z2)]; exact hv
  · obtain ⟨⟨b0, g1, g2⟩, _, g3⟩ := hp.ptr_inv
    obtain ⟨blk1, hb1⟩ := Option.isSome_iff_exists.1 h1
    obtain ⟨q1, q2, q3⟩ := bk_some hb1
    obtain ⟨b1, k1, k2, k3⟩ := hL.lv id b0 g1
    rw [q1] at k1; cases k1
    obtain ⟨e1, _⟩ := k3 (by omega) q2
    have hbk : bk S.μ id ver = some b0 := by have := bk_of g1 e1; rw [show ver = b0.ver by omega]; exact this
    obtain ⟨b, lo, r1, rfl⟩ := g3 b0 hbk
    rw [pLd_same (h3 id ver b0 hbk h1 h2 b lo r1)]; exact hv

theorem chk_sim {S S1 : St} (hS : HOk S) (hL : Later S S1) {b : List (List Nat)} {i : Nat} {kd : Kw} {kd' : Kd} (hk : KR S S1 kd kd') : ∀ {g : List EntW} {g' : List Ent} {k : Option α}, LogR S g g' → chkW b i kd S1.μ g k = some res →
    k = some res ∧ (∀ {β : Type} (k' : Option β), chkLog b i kd' S1.σ g' k' = k') ∧ LogR S1 (spend b i kd g) g'
  | [], _, k, hl, h => by cases hl; exact ⟨h, fun _ => rfl, .nil⟩
  | _ :: g, _, k, hl, h => by
    cases hl with
    | @cons j a bb σ _ g' ha hl =>
      simp only [chkW] at h
      have hlow : ∀ (hk : (∀ k, k < S.σ.next → S1.σ.mem k = S.σ.mem k)), LR S1 a bb := fun hk => ha.low hS hL hk
      cases hk with
      | plain hm =>
        have hh : chkW b i .plain S1.μ g k = some res := by cases a <;> exact h
        obtain ⟨h1, h2, h3⟩ := chk_sim hS hL (.plain hm) hl hh
        refine ⟨h1, fun k' => ?_, .cons (hlow hm) h3⟩
        simp only [chkLog]; cases ha <;> exact h2 k'
      | mk hm =>
        cases ha with
        | eff t =>
          simp only at h
          cases hah : ahead b j i with
          | false => rw [hah] at h; cases h
          | true =>
            rw [hah] at h
            obtain ⟨h1, h2, h3⟩ := chk_sim hS hL (.mk hm) hl h
            exact ⟨h1, fun k' => by simp only [chkLog, hah, cond_true]; exact h2 k', .cons (.eff t) h3⟩
        | plain =>
          obtain ⟨h1, h2, h3⟩ := chk_sim hS hL (.mk hm) hl h
          exact ⟨h1, fun k' => by simp only [chkLog]; exact h2 k', .cons .plain h3⟩
        | mk =>
          obtain ⟨h1, h2, h3⟩ := chk_sim hS hL (.mk hm) hl h
          exact ⟨h1, fun k' => by simp only [chkLog]; exact h2 k', .cons .mk h3⟩
        | ld hp hv =>
          obtain ⟨h1, h2, h3⟩ := chk_sim hS hL (.mk hm) hl h
          exact ⟨h1, fun k' => by simp only [chkLog]; exact h2 k', .cons ((LR.ld hp hv).low hS hL hm) h3⟩
        | gone p v s ag =>
          obtain ⟨h1, h2, h3⟩ := chk_sim hS hL (.mk hm) hl h
          exact ⟨h1, fun k' => by simp only [chkLog]; exact h2 k', .cons (.gone p v s ag) h3⟩
      | ld hp0 hv0 hm =>
        cases ha with
        | eff t =>
          simp only at h
          cases hah : ahead b j i with
          | false => rw [hah] at h; cases h
          | true =>
            rw [hah] at h
            obtain ⟨h1, h2, h3⟩ := chk_sim hS hL (.ld hp0 hv0 hm) hl h
            exact ⟨h1, fun k' => by simp only [chkLog, hah, cond_true]; exact h2 k', .cons (.eff t) h3⟩
        | plain =>
          obtain ⟨h1, h2, h3⟩ := chk_sim hS hL (.ld hp0 hv0 hm) hl h
          exact ⟨h1, fun k' => by simp only [chkLog]; exact h2 k', .cons .plain h3⟩
        | mk =>
          obtain ⟨h1, h2, h3⟩ := chk_sim hS hL (.ld hp0 hv0 hm) hl h
          exact ⟨h1, fun k' => by simp only [chkLog]; exact h2 k', .cons .mk h3⟩
        | ld hp hv =>
          obtain ⟨h1, h2, h3⟩ := chk_sim hS hL (.ld hp0 hv0 hm) hl h
          exact ⟨h1, fun k' => by simp only [chkLog]; exact h2 k', .cons ((LR.ld hp hv).low hS hL hm) h3⟩
        | gone p v s ag =>
          obtain ⟨h1, h2, h3⟩ := chk_sim hS hL (.ld hp0 hv0 hm) hl h
          exact ⟨h1, fun k' => by simp only [chkLog]; exact h2 k', .cons (.gone p v s ag) h3⟩
      | @eff t0 ht =>
        cases ha with
        | eff t =>
          simp only at h
          cases hah : ahead b j i with
          | false => rw [hah] at h; cases h
          | true =>
            rw [hah] at h
            obtain ⟨h1, h2, h3⟩ := chk_sim hS hL (.eff ht) hl h
            exact ⟨h1, fun k' => by simp only [chkLog, hah, cond_true]; exact h2 k', .cons (.eff t) h3⟩
        | plain =>
          obtain ⟨h1, h2, h3⟩ := chk_sim hS hL (.eff ht) hl h
          exact ⟨h1, fun k' => by simp only [chkLog]; exact h2 k', .cons .plain h3⟩
        | mk =>
          obtain ⟨h1, h2, h3⟩ := chk_sim hS hL (.eff ht) hl h
          exact ⟨h1, fun k' => by simp only [chkLog]; exact h2 k', .cons .mk h3⟩
        | @ld p p' v' size agg hp hv =>
          simp only at h
          cases hah : ahead b j i with
          | true =>
            rw [hah] at h
            obtain ⟨h1, h2, h3⟩ := chk_sim hS hL (.eff ht) hl h
            refine ⟨h1, fun k' => by simp only [chkLog, hah, cond_true]; exact h2 k', ?_⟩
            show LogR S1 (spend1 b i (.eff t0) ⟨j, .ld p⟩ :: spend b i (.eff t0) g) _
            simp only [spend1, hah, cond_true]
            exact .cons (.gone p' v' size agg) h3
          | false =>
            rw [hah] at h; simp only [cond_false] at h
            obtain ⟨h, hst⟩ := stand_some h
            obtain ⟨h1, h2, h3⟩ := chk_sim hS hL (.eff ht) hl h
            have hv1 := ld_stands hS hL hp hv (by
              rcases hst with hst | ⟨id, ver, ii, off, l, rfl, rfl, q1, q2⟩
              · exact .inl hst
              · exact .inr ⟨id, ver, ii, off, l, rfl, q1, q2, ht l rfl⟩)
            refine ⟨h1, fun k' => by simp only [chkLog, hah, cond_false]; rw [chk_self hv1]; exact h2 k', ?_⟩
            show LogR S1 (spend1 b i (.eff t0) ⟨j, .ld p⟩ :: spend b i (.eff t0) g) _
            simp only [spend1, hah, cond_false]
            exact .cons (.ld (hp.later hL hS) hv1) h3
        | gone p v s ag =>
          simp only at h
          cases hah : ahead b j i with
          | false => rw [hah] at h; cases h
          | true =>
            rw [hah] at h
            obtain ⟨h1, h2, h3⟩ := chk_sim hS hL (.eff ht) hl h
            exact ⟨h1, fun k' => by simp only [chkLog, hah, cond_true]; exact h2 k', .cons (.gone p v s ag) h3⟩

theorem KR.lr {S S1 : St} (hS : HOk S) (hL : Later S S1) {kd : Kw} {kd' : Kd} (h : KR S S1 kd kd') : LR S1 kd kd' := by
  cases h with
  | plain _ => exact .plain
  | mk _ => exact .mk
  | ld hp hv hm => exact (LR.ld hp hv).low hS hL hm
  | eff _ => exact .eff _

theorem opsDW_sim (hG : ∀ T ti, P.E.ti T = some ti → tiGood ti = true) (hw : WSim P call cal) (hc : CSim call cal) {all : List Oper} {b : List (List Nat)} : ∀ {l : List (Oper × Nat)} {S : St} {fr : DFr} {fr' : Fr} {g : List EntW} {g' : List Ent} {k : DFr → PH → Option α}, HOk S → FrRel S fr fr' → LogR S g g' →
    opsDW P call f all b l g fr S.μ k = some res → RegR S fr k res (fun k' => opsD P.E cal f all b l g' fr' S.σ k')
  | [], S, fr, fr', g, g', k, hS, hf, hl, h => ⟨fr, S, fr', h, fun k' => rfl, hf, hS, Later.refl S⟩
  | (o, i) :: l, S, fr, fr', g, g', k, hS, hf, hl, h => by
    simp only [opsDW] at h
    cases hd : dstOk o fr.n with
    | false => rw [hd] at h; cases h
    | true =>
      rw [hd] at h; simp only [cond_true] at h
      obtain ⟨fr1, fr1', g1, g2, g3⟩ := grd_sim hf h
      have hd' : dstOk o fr'.n = true := by rw [← hf.n]; exact hd
      rcases g3 with ⟨g3, g4⟩ | ⟨g3, g4⟩
      · cases hkd : kindW P f o (fr1.only (o.looksAt all.toArray)) with
        | none => rw [hkd] at g3; cases g3
        | some kd =>
          rw [hkd] at g3
          simp only at g3
          obtain ⟨x, regs, S1, x', regs', e1, e2, e3, e4, e5, e6, e7⟩ := opW_sim hG hw hc hS (g1.only (o.looksAt all.toArray)) g3
          obtain ⟨kd', k1, k2⟩ := e7 kd hkd
          obtain ⟨c1, c2, c3⟩ := chk_sim hS e4 k2 hl e1
          obtain ⟨fr2, S2, fr2', q1, q2, q3, q4, q5⟩ := opsDW_sim hG hw hc (g' := ⟨i, kd', S.σ⟩ :: g') e3 ((g1.later e4 hS).put (g1.later e4 hS).rg o.dst e5) (.cons (k2.lr hS e4) c3) c1
          refine ⟨fr2, S2, fr2', q1, fun k' => ?_, q3, q4, Later.trans e4 q5⟩
          simp only [opsD, hd', cond_true, g4, e2, k1, c2]
          exact q2 k'
      · obtain ⟨fr2, S2, fr2', q1, q2, q3, q4, q5⟩ := opsDW_sim hG hw hc hS (g1.put g1.rg o.dst (.some .und)) hl g3
        exact ⟨fr2, S2, fr2', q1, fun k' => by simp only [opsD, hd', cond_true, g4]; exact q2 k', q3, q4, q5⟩
end
end Go.Lg.Pv
namespace Go.Lg.Pv
open Go Go.Lg
set_option linter.unusedVariables false
set_option linter.unnecessarySimpa false
set_option linter.unusedSimpArgs false
set_option linter.unusedSectionVars false

theorem kl_tv {S : St} {id : Nat} {v : DV} {x : Value} (h : TV S v x) : TV (S.w (kl S.μ id)) v x :=
  TV.mono (S := S) (S' := S.w (kl S.μ id)) (fun b hb => ⟨hb, rfl⟩) (fun j b hb => by
    by_cases he : j = id
    · subst he
      exact ⟨{ b with live := false, el := [] }, by show (kl S.μ j)[j]? = _; rw [kl_get, if_pos rfl, hb]; rfl, Nat.le_refl _, fun _ hl => by cases hl⟩
    · exact ⟨b, by show (kl S.μ id)[j]? = _; rw [kl_get, if_neg he]; exact hb, Nat.le_refl _, fun _ hl => ⟨hl, ⟨rfl, fun _ _ _ => rfl⟩, rfl, rfl⟩⟩) h
theorem kl_live {μ : PH} {id j : Nat} {b : PB} (h : (kl μ id)[j]? = some b) (hl : b.live = true) : j ≠ id ∧ μ[j]? = some b := by
  rw [kl_get] at h
  split at h
  · cases hm : μ[id]? with
    | none => rw [hm] at h; cases h
    | some x => rw [hm] at h; simp at h; subst h; cases hl
  · exact ⟨by assumption, h⟩
theorem kl_hok {S : St} (hS : HOk S) (id : Nat) : HOk (S.w (kl S.μ id)) :=
  ⟨fun j blk h1 h2 => (hS.hb j blk (kl_live h1 h2).2 h2).mono rfl (fun _ _ => rfl) (fun v x h => kl_tv h), fun j blk h1 h2 => hS.nd j blk (kl_live h1 h2).2 h2, fun j blk h1 h2 => hS.nz j blk (kl_live h1 h2).2 h2, fun j blk h1 h2 => hS.wr j blk (kl_live h1 h2).2 h2,
    fun j j' blk blk' h1 h2 h3 h4 => hS.dj j j' blk blk' (kl_live h1 h2).2 h2 (kl_live h3 h4).2 h4, hS.zl, hS.md⟩

/-- what a function that puts cells in order gives: they were such in one state, and are such in another -/
def FdOk (O T : St) (f : PH → Sh → DV → Option (DV × PH)) : Prop := ∀ (S : St) s v v' μ', HOk S → (∀ v x, TV O v x → TV S v x) → S.σ = O.σ → f S.μ s v = some (v', μ') → ∀ x F, CV O false v x F → Loose S F →
  Kil S.μ μ' ∧ ∃ F', CV T false v' x F' ∧ Loose (S.w μ') F' ∧ ∀ b ∈ F', b ∈ F ∨ foot S b
theorem foldC_ok {O T : St} (hT : ∀ v x, TV O v x → TV T v x) (hσ : T.σ = O.σ) (pins : List Nat) (k : Nat) : FdOk O T (foldC pins k) := fun S s v v' μ' hS hO hSo h x F hx hF => by
  have same : (v, S.μ) = (v', μ') → Kil S.μ μ' ∧ ∃ F', CV T false v' x F' ∧ Loose (S.w μ') F' ∧ ∀ b ∈ F', b ∈ F ∨ foot S b := fun he => by
    cases he
    exact ⟨Kil.refl _, F, hx.mono (fun _ _ => by rw [hσ]) hT, hF, fun b hb => .inl hb⟩
  cases v with
  | own id ver o n c xx =>
    simp only [foldC] at h
    split at h
    · exact same (by simpa using h)
    · obtain ⟨k1, F', g1, g2, g3⟩ := vwC_ok k S s _ v' μ' hS h x F (hx.mono (fun _ _ => by rw [hSo]) hO) hF
      exact ⟨k1, F', .rv rfl (by rw [hσ, ← hSo]; exact g1), g2, g3⟩
  | _ => simp only [foldC, Option.some.injEq] at h; exact same h

theorem zipF_sim {O T : St} {f : PH → Sh → DV → Option (DV × PH)} (hf : FdOk O T f) : ∀ (cs : List DV) (S : St) (s : List Sh) (r : List DV) (μ' : PH), HOk S → (∀ v x, TV O v x → TV S v x) → S.σ = O.σ → zipS f S.μ s cs = some (r, μ') → ∀ cs' F, CVs O false cs cs' F → Loose S F →
    Kil S.μ μ' ∧ ∃ F', CVs T false r cs' F' ∧ Loose (S.w μ') F' ∧ ∀ b ∈ F', b ∈ F ∨ foot S b
  | [], S, s, r, μ', hS, hO, hSo, h, cs', F, hc, hF => by
    cases s <;> (simp only [zipS, Option.some.injEq, Prod.mk.injEq] at h; obtain ⟨rfl, rfl⟩ := h; cases hc; exact ⟨Kil.refl _, [], .nil, hF, fun b hb => by cases hb⟩)
  | c :: cs, S, s, r, μ', hS, hO, hSo, h, cs', F, hc, hF => by
    cases hc with
    | @cons _ x F1 _ l' F2 hc1 hc2 =>
      simp only [zipS] at h
      obtain ⟨p, hp, h⟩ := Option.bind_eq_some_iff.1 h
      obtain ⟨q, hq, h⟩ := Option.bind_eq_some_iff.1 h
      cases h
      obtain ⟨k1, F1', g1, g2, g3⟩ := hf S _ c p.1 p.2 hS hO hSo hp x F1 hc1 (hF.sub (List.sublist_append_left _ _))
      have hS1 := k1.hok hS
      have hF2 : Loose (S.w p.2) F2 := (hF.sub (List.sublist_append_right _ _)).kil k1
      obtain ⟨k2, F2', e1, e2, e3⟩ := zipF_sim hf cs (S.w p.2) _ q.1 q.2 hS1 (fun v x hv => (hO v x hv).later k1.later hS) hSo hq l' F2 hc2 hF2
      refine ⟨k1.trans k2, F1' ++ F2', .cons g1 e1, Loose.join hF k1 k2 g2 g3 e2 e3, fun b hb => ?_⟩
      rcases List.mem_append.1 hb with hb | hb
      · exact (g3 b hb).imp (List.mem_append_left _) id
      · exact (e3 b hb).imp (List.mem_append_right _) k1.foot
theorem cv_agg {S : St} {op : Bool} {v : DV} {x : Value} {F : List Nat} (h : CV S op v x F) (hx : one x = true) : ∀ l, v ≠ .agg l := fun l he => by
  subst he
  cases h with
  | rv _ h => exact rv_agg h hx l rfl
  | tv _ h => obtain ⟨l', rfl, _⟩ := h.agg_inv; simp [one] at hx
theorem onF_sim {O T : St} {f : PH → Sh → DV → Option (DV × PH)} (hf : FdOk O T f) {S : St} {s : List Sh} {e e' : DV} {μ' : PH} (hS : HOk S) (hO : ∀ v x, TV O v x → TV S v x) (hSo : S.σ = O.σ) (h : onS f S.μ s e = some (e', μ')) {cs' : List Value} {F : List Nat} (hc : CVs O false (cellsD e) cs' F) (hF : Loose S F) :
    Kil S.μ μ' ∧ ∃ F', CVs T false (cellsD e') cs' F' ∧ Loose (S.w μ') F' ∧ ∀ b ∈ F', b ∈ F ∨ foot S b := by
  unfold onS at h
  split at h
  · rename_i cs
    obtain ⟨p, hp, h⟩ := Option.map_eq_some_iff.1 h
    cases h
    exact zipF_sim hf cs S s p.1 p.2 hS hO hSo hp cs' F hc hF
  · rename_i hv
    obtain ⟨x, rfl, hx⟩ := cv_cell hv hc
    obtain ⟨k1, F1', g1, g2, g3⟩ := hf S _ e e' μ' hS hO hSo h x F hx hF
    refine ⟨k1, F1', ?_, g2, g3⟩
    rw [cellsD_one (cv_agg g1 (hx.one hv))]
    have := CVs.cons g1 (.nil)
    rwa [List.append_nil] at this
theorem mapF_sim {O T : St} {f : PH → Sh → DV → Option (DV × PH)} (hf : FdOk O T f) (s : List Sh) : ∀ (es : List DV) (S : St) (r : List DV) (μ' : PH) (C : Nat → List Value) (Fs : Nat → List Nat), HOk S → (∀ v x, TV O v x → TV S v x) → S.σ = O.σ → mapS f s S.μ es = some (r, μ') →
    (∀ i e, es[i]? = some e → CVs O false (cellsD e) (C i) (Fs i)) → Loose S ((List.range es.length).flatMap Fs) →
    Kil S.μ μ' ∧ ∃ Fs', r.length = es.length ∧ (∀ (i : Nat) e, r[i]? = some e → CVs T false (cellsD e) (C i) (Fs' i)) ∧ Loose (S.w μ') ((List.range es.length).flatMap Fs') ∧ ∀ b ∈ (List.range es.length).flatMap Fs', b ∈ (List.range es.length).flatMap Fs ∨ foot S b
  | [], S, r, μ', C, Fs, hS, hO, hSo, h, hc, hF => by
    simp only [mapS, Option.some.injEq, Prod.mk.injEq] at h
    obtain ⟨rfl, rfl⟩ := h
    exact ⟨Kil.refl _, Fs, rfl, fun i e he => by simp at he, hF, fun b hb => .inl hb⟩
  | e :: es, S, r, μ', C, Fs, hS, hO, hSo, h, hc, hF => by
    simp only [mapS] at h
    obtain ⟨p, hp, h⟩ := Option.bind_eq_some_iff.1 h
    obtain ⟨q, hq, h⟩ := Option.bind_eq_some_iff.1 h
    cases h
    rw [List.length_cons, flatMap_succ] at hF
    obtain ⟨k1, F1', g1, g2, g3⟩ := onF_sim hf hS hO hSo (e' := p.1) (μ' := p.2) hp (hc 0 e rfl) (hF.sub (List.sublist_append_left _ _))
    have hS1 := k1.hok hS
    have hF2 : Loose (S.w p.2) _ := (hF.sub (List.sublist_append_right _ _)).kil k1
    obtain ⟨k2, Fs', e0, e1, e2, e3⟩ := mapF_sim hf s es (S.w p.2) q.1 q.2 (fun i => C (i + 1)) (fun i => Fs (i + 1)) hS1 (fun v x hv => (hO v x hv).later k1.later hS) hSo hq
      (fun i e he => hc (i + 1) e (by simpa using he)) hF2
    refine ⟨k1.trans k2, fun i => match i with | 0 => F1' | i + 1 => Fs' i, by simp [e0], fun i e' he => ?_, ?_, fun b hb => ?_⟩
    · cases i with
      | zero => simp at he; subst he; exact g1
      | succ i => exact e1 i e' (by simpa using he)
    · rw [List.length_cons, flatMap_succ]; exact Loose.join hF k1 k2 g2 g3 e2 e3
    · rw [List.length_cons, flatMap_succ] at hb ⊢
      rcases List.mem_append.1 hb with hb | hb
      · exact (g3 b hb).imp (List.mem_append_left _) id
      · exact (e3 b hb).imp (List.mem_append_right _) k1.foot

/-- values hang on no more of a state than this -/
theorem TV.same {S T : St} (hz : T.Z = S.Z) (hσ : T.σ = S.σ) (hμ : T.μ = S.μ) (hι : T.ι = S.ι) {v : DV} {x : Value} (h : TV S v x) : TV T v x :=
  TV.mono (S := S) (S' := T) (fun b hb => ⟨by rw [hz]; exact hb, by rw [hσ]⟩) (fun j b hj => ⟨b, by rw [hμ]; exact hj, Nat.le_refl _, fun _ hl => ⟨hl, ⟨by rw [hι], fun _ _ _ => by rw [hσ]⟩, rfl, rfl⟩⟩) h

theorem foldB_sim {S : St} (hS : HOk S) {pins : List Nat} {id : Nat} {μ' : PH} (h : foldB pins S.μ id = some μ') : ∃ S', S'.μ = μ' ∧ S'.σ = S.σ ∧ HOk S' ∧ Later S S' := by
  unfold foldB at h
  cases hb : S.μ[id]? with
  | none => rw [hb] at h; cases h
  | some blk =>
    rw [hb] at h
    simp only at h
    split at h
    · rename_i hc
      obtain ⟨hl, hop, _⟩ := hc
      obtain ⟨p, hp, h'⟩ := Option.map_eq_some_iff.1 h
      clear h
      subst h'
      have hid := (List.getElem?_eq_some_iff.1 hb).1
      have hS1 := kl_hok hS id
      obtain ⟨hl1, hf1⟩ := kl_loose hS hb hl
      have hB := hS.hb id blk hb hl
      generalize hFm : S.Fm id = F0 at hB
      rw [hFm] at hl1
      have main : ∀ (C : Nat → List Value) (Fs : Nat → List Nat) (hd : List Nat), F0 = hd ++ (List.range blk.el.length).flatMap Fs → (∀ i e, blk.el[i]? = some e → CVs S false (cellsD e) (C i) (Fs i)) →
          (∀ (T : St) (Fs' : Nat → List Nat), T.ι = S.ι → T.σ = S.σ → p.1.length = blk.el.length → (∀ i e, p.1[i]? = some e → CVs T false (cellsD e) (C i) (Fs' i)) → HB T id { blk with el := p.1 } (hd ++ (List.range blk.el.length).flatMap Fs')) →
          ∃ S', S'.μ = p.2.set id { blk with el := p.1 } ∧ S'.σ = S.σ ∧ HOk S' ∧ Later S S' := by
        intro C Fs hd hF0 hcs hmk
        rw [hF0] at hl1
        -- first: which blocks are told no more
        obtain ⟨k1, _, e0, _⟩ := mapF_sim (O := S) (T := S) (foldC_ok (fun _ _ h => h) rfl pins 5) blk.sh blk.el (S.w (kl S.μ id)) p.1 p.2 C Fs hS1 (fun v x hv => kl_tv hv) rfl hp hcs (hl1.sub (List.sublist_append_right _ _))
        have hS2 := k1.hok hS1
        have hlen2 : p.2.length = S.μ.length := by rw [k1.len]; exact kl_len _ _
        have hget : ∀ j, (p.2.set id { blk with el := p.1 })[j]? = if j = id then some { blk with el := p.1 } else p.2[j]? := fun j => by
          by_cases he : j = id
          · subst he; rw [List.getElem?_set_self (by rw [hlen2]; exact hid), if_pos rfl]
          · rw [get_set_ne j he, if_neg he]
        have hpj : ∀ j, j ≠ id → p.2[j]? = S.μ[j]? ∨ ∃ b, S.μ[j]? = some b ∧ b.whole = true ∧ p.2[j]? = some { b with live := false, el := [] } := fun j hj => by
          have := k1.get j
          rw [show (S.w (kl S.μ id)).μ[j]? = S.μ[j]? by show (kl S.μ id)[j]? = _; rw [kl_get, if_neg hj]] at this
          exact this
        have hlv : ∀ (j : Nat) (b : PB), S.μ[j]? = some b → ∃ b', (p.2.set id { blk with el := p.1 })[j]? = some b' ∧ b.ver ≤ b'.ver ∧ (b'.ver = b.ver → b'.live = true → b.live = true ∧ b'.sh = b.sh ∧ b'.el.length = b.el.length ∧ b'.op = b.op ∧ b'.whole = b.whole) := fun j b hj => by
          by_cases he : j = id
          · subst he
            rw [hb] at hj; cases hj
            exact ⟨{ blk with el := p.1 }, by rw [hget, if_pos rfl], Nat.le_refl _, fun _ _ => ⟨hl, rfl, e0, rfl, rfl⟩⟩
          · rcases hpj j he with g | ⟨b', g1, g2, g3⟩
            · exact ⟨b, by rw [hget, if_neg he, g]; exact hj, Nat.le_refl _, fun _ hl => ⟨hl, rfl, rfl, rfl, rfl⟩⟩
            · rw [hj] at g1; cases g1
              exact ⟨{ b with live := false, el := [] }, by rw [hget, if_neg he]; exact g3, Nat.le_refl _, fun _ hl => by cases hl⟩
        let T : St := { S with μ := p.2.set id { blk with el := p.1 } }
        have hT : ∀ v x, TV S v x → TV T v x := fun v x hv => TV.mono (S := S) (S' := T) (fun b hb => ⟨hb, rfl⟩) (fun j b hj => by
          obtain ⟨b', q1, q2, q3⟩ := hlv j b hj
          exact ⟨b', q1, q2, fun hv hl => by obtain ⟨r1, r2, r3, _⟩ := q3 hv hl; exact ⟨r1, ⟨rfl, fun _ _ _ => rfl⟩, r2, r3⟩⟩) hv
        obtain ⟨_, Fs', _, e1, e2, e3⟩ := mapF_sim (O := S) (T := T) (foldC_ok hT rfl pins 5) blk.sh blk.el (S.w (kl S.μ id)) p.1 p.2 C Fs hS1 (fun v x hv => kl_tv hv) rfl hp hcs (hl1.sub (List.sublist_append_right _ _))
        have hF2 : Loose ((S.w (kl S.μ id)).w p.2) (hd ++ (List.range blk.el.length).flatMap Fs') := by
          have h0 := (hl1.sub (List.sublist_append_left hd _)).kil k1
          refine ⟨List.nodup_append.2 ⟨h0.nd, e2.nd, fun a ha b hb he => ?_⟩, fun b hb => (List.mem_append.1 hb).elim (h0.nz b) (e2.nz b), fun b hb => (List.mem_append.1 hb).elim (h0.wr b) (e2.wr b), fun b hb => (List.mem_append.1 hb).elim (h0.nf b) (e2.nf b)⟩
          subst he
          rcases e3 a hb with g | g
          · exact (List.nodup_append.1 hl1.nd).2.2 a ha a g rfl
          · exact hl1.nf a (List.mem_append_left _ ha) g
        let S' : St := { S with μ := p.2.set id { blk with el := p.1 }, Fm := updN S.Fm id (hd ++ (List.range blk.el.length).flatMap Fs') }
        have hlive : ∀ (j : Nat) b, j ≠ id → S'.μ[j]? = some b → b.live = true → S.μ[j]? = some b ∧ ((S.w (kl S.μ id)).w p.2).μ[j]? = some b := fun j b hj h1 h2 => by
          have h1 : (p.2.set id { blk with el := p.1 })[j]? = some b := h1
          rw [hget, if_neg hj] at h1
          exact ⟨(kl_live (k1.live h1 h2) h2).2, h1⟩
        have hfoot : ∀ b, foot S' b → foot S b := fun b ⟨j, blk', g1, g2, g3⟩ => by
          by_cases he : j = id
          · subst he
            have g3 : b ∈ hd ++ (List.range blk.el.length).flatMap Fs' := by simpa [S'] using g3
            rcases List.mem_append.1 g3 with g | g
            · exact ⟨j, blk, hb, hl, by rw [hFm, hF0]; exact List.mem_append_left _ g⟩
            · rcases e3 b g with g | g
              · exact ⟨j, blk, hb, hl, by rw [hFm, hF0]; exact List.mem_append_right _ g⟩
              · exact hf1 b g
          · have g3 : b ∈ S.Fm j := by simpa [S', updN_ne _ _ he] using g3
            exact ⟨j, blk', (hlive j blk' he g1 g2).1, g2, g3⟩
        have hL : Later S S' := by
          refine ⟨Nat.le_refl _, fun _ h => h, fun _ h => .inl h, fun _ _ _ => rfl, by show S.μ.length ≤ (p.2.set id _).length; rw [List.length_set, hlen2]; exact Nat.le_refl _, fun j b hj => ?_, fun j b hj h2 h3 => ?_, fun b hb => .inl (hfoot b hb)⟩
          · obtain ⟨b', q1, q2, q3⟩ := hlv j b hj
            exact ⟨b', q1, q2, fun hv hl => by obtain ⟨r1, r2, r3, r4, r5⟩ := q3 hv hl; exact ⟨r1, ⟨rfl, fun _ _ _ => rfl⟩, r2, r3, r4, r5⟩⟩
          · by_cases he : j = id
            · subst he
              rw [hb] at hj; cases hj
              exact ⟨{ blk with el := p.1 }, by show (p.2.set j _)[j]? = _; rw [hget, if_pos rfl], hl, rfl, fun _ _ _ => SegOk.refl _ _ _ _⟩
            · rcases hpj j he with g | ⟨b', g1, g2, g3⟩
              · exact ⟨b, by show (p.2.set id _)[j]? = _; rw [hget, if_neg he, g]; exact hj, h2, rfl, fun _ _ _ => SegOk.refl _ _ _ _⟩
              · rw [hj] at g1; cases g1; rw [h3] at g2; cases g2
        have hT' : ∀ v x, TV T v x → TV S' v x := fun v x hv => TV.same (S := T) (T := S') rfl rfl rfl rfl hv
        refine ⟨S', rfl, rfl, ⟨fun j blk' h1 h2 => ?_, fun j blk' h1 h2 => ?_, fun j blk' h1 h2 => ?_, fun j blk' h1 h2 => ?_, fun j j' b1 b2 h1 h2 h3 h4 hne b hb hb' => ?_, hS.zl, hS.md⟩, hL⟩
        · by_cases he : j = id
          · subst he
            have h1' : (p.2.set j { blk with el := p.1 })[j]? = some blk' := h1
            rw [hget, if_pos rfl] at h1'; cases h1'
            have := hmk S' Fs' rfl rfl e0 (fun i e he => (e1 i e he).mono hT' fun _ _ => rfl)
            simpa [S'] using this
          · have := (hS.hb j blk' (hlive j blk' he h1 h2).1 h2).mono (S' := S') rfl (fun _ _ => rfl) (fun v x h => hT' v x (hT v x h))
            simpa [S', updN_ne _ _ he] using this
        · by_cases he : j = id
          · subst he; simpa [S'] using hF2.nd
          · simpa [S', updN_ne _ _ he] using hS.nd j blk' (hlive j blk' he h1 h2).1 h2
        · by_cases he : j = id
          · subst he; intro b hb; exact hF2.nz b (by simpa [S'] using hb)
          · intro b hb; exact hS.nz j blk' (hlive j blk' he h1 h2).1 h2 b (by simpa [S', updN_ne _ _ he] using hb)
        · by_cases he : j = id
          · subst he; intro b hb; exact hF2.wr b (by simpa [S'] using hb)
          · intro b hb; exact hS.wr j blk' (hlive j blk' he h1 h2).1 h2 b (by simpa [S', updN_ne _ _ he] using hb)
        · have cross : ∀ (i : Nat) bi, i ≠ id → S'.μ[i]? = some bi → bi.live = true → ∀ b, b ∈ hd ++ (List.range blk.el.length).flatMap Fs' → b ∈ S.Fm i → False := fun i bi hi g1 g2 b g3 g4 =>
            hF2.nf b g3 ⟨i, bi, (hlive i bi hi g1 g2).2, g2, g4⟩
          by_cases he : j = id
          · subst he
            have hb : b ∈ hd ++ (List.range blk.el.length).flatMap Fs' := by simpa [S'] using hb
            have hb' : b ∈ S.Fm j' := by simpa [S', updN_ne _ _ (Ne.symm hne)] using hb'
            exact cross j' b2 (Ne.symm hne) h3 h4 b hb hb'
          · have hbj : b ∈ S.Fm j := by simpa [S', updN_ne _ _ he] using hb
            by_cases he' : j' = id
            · subst he'
              have hb' : b ∈ hd ++ (List.range blk.el.length).flatMap Fs' := by simpa [S'] using hb'
              exact cross j b1 he h1 h2 b hb' hbj
            · have hb' : b ∈ S.Fm j' := by simpa [S', updN_ne _ _ he'] using hb'
              exact hS.dj j j' b1 b2 (hlive j b1 he h1 h2).1 h2 (hlive j' b2 he' h3 h4).1 h4 hne b hbj hb'
      cases hB with
      | none g1 g2 =>
        refine main (fun _ => []) (fun _ => []) [] (by rw [g2]; rfl) (fun i e he => by rw [g2] at he; simp at he) (fun T Fs' hι hσ hlen hcv => ?_)
        have hp1 : p.1 = [] := List.eq_nil_of_length_eq_zero (by rw [hlen, g2]; rfl)
        rw [g2]
        exact .none (by rw [hι]; exact g1) hp1
      | some b lo lb Fs g1 g2 g3 g4 g5 =>
        rw [hop] at g5
        refine main (fun i => cellsAt (lb.cells.drop lo) blk.sh.length i) Fs [b] rfl g5 (fun T Fs' hι hσ hlen hcv => ?_)
        have := HB.some (S := T) (id := id) (blk := { blk with el := p.1 }) b lo lb Fs' (by rw [hι]; exact g1) (by rw [hσ]; exact g2) g3 (by simpa [hlen] using g4) (by simp only [hop]; exact hcv)
        simpa [hlen] using this
    · cases h
      exact ⟨S, rfl, rfl, hS, Later.refl S⟩
theorem foldBs_sim {pins : List Nat} : ∀ {ids : List Nat} {S : St} {μ' : PH}, HOk S → foldBs pins ids S.μ = some μ' → ∃ S', S'.μ = μ' ∧ S'.σ = S.σ ∧ HOk S' ∧ Later S S'
  | [], S, μ', hS, h => by simp only [foldBs, Option.some.injEq] at h; exact ⟨S, h, rfl, hS, Later.refl S⟩
  | i :: ids, S, μ', hS, h => by
    simp only [foldBs] at h
    obtain ⟨μ1, h1, h⟩ := Option.bind_eq_some_iff.1 h
    obtain ⟨S1, e1, e2, e3, e4⟩ := foldB_sim hS h1
    subst e1
    obtain ⟨S2, q1, q2, q3, q4⟩ := foldBs_sim e3 h
    exact ⟨S2, q1, q2.trans e2, q3, Later.trans e4 q4⟩

theorem trim_spec (base : Nat) : ∀ (k : Nat) (μ : PH), ∃ tail, μ = trim base μ k ++ tail ∧ (∀ b ∈ tail, b.live = false) ∧ (base ≤ μ.length → base ≤ (trim base μ k).length)
  | 0, μ => ⟨[], by simp [trim], fun b hb => (by cases hb), fun h => h⟩
  | k + 1, μ => by
    simp only [trim]
    cases hg : μ.getLast? with
    | none => exact ⟨[], by simp, fun b hb => (by cases hb), fun h => h⟩
    | some b =>
      simp only
      split
      · rename_i hc
        obtain ⟨tail, h1, h2, h3⟩ := trim_spec base k μ.dropLast
        have hμ : μ = μ.dropLast ++ [b] := by
          have hne : μ ≠ [] := fun he => by rw [he] at hg; cases hg
          have := List.dropLast_concat_getLast hne
          rw [List.getLast?_eq_some_getLast hne] at hg
          cases hg; exact this.symm
        refine ⟨tail ++ [b], ?_, fun x hx => ?_, fun hb => h3 (by rw [List.length_dropLast]; omega)⟩
        · conv => lhs; rw [hμ]
          rw [← List.append_assoc, ← h1]
        · rcases List.mem_append.1 hx with hx | hx
          · exact h2 x hx
          · simp at hx; subst hx; exact hc.1
      · exact ⟨[], by simp, fun b hb => (by cases hb), fun h => h⟩

/-- values that name none but the blocks that stay -/
theorem TV.trim {S T : St} (hz : T.Z = S.Z) (hσ : T.σ = S.σ) (hι : T.ι = S.ι) (hμ : ∀ j, j < T.μ.length → T.μ[j]? = S.μ[j]?) {v : DV} {x : Value} (h : TV S v x) : (∀ i ∈ idsV v, i < T.μ.length) → TV T v x := by
  refine TV.rec (motive_1 := fun v x _ => (∀ i ∈ idsV v, i < T.μ.length) → TV T v x) (motive_2 := fun l l' _ => (∀ i ∈ idsL l, i < T.μ.length) → TVs T l l') ?_ ?_ ?_ ?_ ?_ ?_ ?_ ?_ ?_ ?_ ?_ ?_ ?_ ?_ ?_ ?_ ?_ ?_ ?_ ?_ h
  all_goals try (intros; constructor; done)
  · intro v h _; exact .dead v h
  · intro sh l b o c blk h0 h1 h2 h3 h3' h4 ih hi
    refine .sl sh l b o c blk (by rw [hz]; exact h0) (by rw [hσ]; exact h1) h2 h3 h3' fun i e he => ih i e he fun j hj => hi j ?_
    have : ∀ (l : List DV) e, e ∈ l → ∀ j ∈ idsL (cellsD e), j ∈ idsL l := fun l e he j hj => idsL_mem he (by cases e <;> simpa [cellsD, idsV, idsL] using hj)
    simp only [idsV]; exact this l e (List.mem_of_getElem? he) j hj
  · intro e off b o blk h0 h1 h2 h3 ih hi
    refine .rp e off b o blk (by rw [hz]; exact h0) (by rw [hσ]; exact h1) h2 (ih fun j hj => hi j ?_)
    cases e <;> simpa [cellsD, idsV, idsL] using hj
  · intro f a b a' b' h1 h2 ih1 ih2 hi
    exact .fn f a b a' b' (ih1 fun j hj => hi j (by simp only [idsV]; exact List.mem_append_left _ hj)) (ih2 fun j hj => hi j (by simp only [idsV]; exact List.mem_append_right _ hj))
  · intro l l' h ih hi; exact .agg l l' (ih fun j hj => hi j (by simpa [idsV] using hj))
  · rintro id ver o n c x v ⟨b0, h1, h1'⟩ h2 h3 hi
    have hlt := hi id (by simp [idsV])
    refine .own id ver o n c x v ⟨b0, by rw [hμ id hlt]; exact h1, h1'⟩ h2 fun blk hk => ?_
    obtain ⟨e1, e2, e3⟩ := bk_some hk
    rw [hμ id hlt] at e1
    have := h3 blk (by rw [← e3]; exact bk_of e1 e2)
    unfold OwnR at this ⊢
    rw [hι, hσ]; exact this
  · rintro id ver i off v ⟨b0, h1, h1'⟩ h2 h3 hi
    have hlt := hi id (by simp [idsV])
    refine .ptr id ver i off v ⟨b0, by rw [hμ id hlt]; exact h1, h1'⟩ h2 fun blk hk => ?_
    obtain ⟨e1, e2, e3⟩ := bk_some hk
    rw [hμ id hlt] at e1
    have := h3 blk (by rw [← e3]; exact bk_of e1 e2)
    unfold PtrR at this ⊢
    rw [hι]; exact this
  · intro v x l l' h1 h2 ih1 ih2 hi
    exact .cons (ih1 fun j hj => hi j (by simp only [idsL]; exact List.mem_append_left _ hj)) (ih2 fun j hj => hi j (by simp only [idsL]; exact List.mem_append_right _ hj))
mutual
theorem cl_idsV : ∀ (v : DV), cl v = true → idsV v = []
  | .agg l, h => by simp only [idsV]; exact cl_idsL l (by simpa [cl] using h)
  | .sl _ l, h => by simp only [idsV]; exact cl_idsL l (by simpa [cl] using h)
  | .rp e _, h => by simp only [idsV]; exact cl_idsV e (by simpa [cl] using h)
  | .fn _ a b, h => by
    simp only [cl, Bool.and_eq_true] at h
    simp only [idsV, cl_idsL a h.1, cl_idsL b h.2, List.append_nil]
  | .int .., _ => rfl
  | .bool _, _ => rfl
  | .str _, _ => rfl
  | .nilF, _ => rfl
  | .nilI, _ => rfl
  | .nilP, _ => rfl
  | .nil, _ => rfl
  | .e0 _, _ => rfl
  | .dead, _ => rfl
  | .own .., h => by simp [cl] at h
  | .ptr .., h => by simp [cl] at h
theorem cl_idsL : ∀ (l : List DV), clL l = true → idsL l = []
  | [], _ => rfl
  | v :: l, h => by
    simp only [clL, Bool.and_eq_true] at h
    simp only [idsL, cl_idsV v h.1, cl_idsL l h.2, List.append_nil]
end

theorem tidy_sim {S0 S : St} (hL0 : Later S0 S) (hS : HOk S) {xs : List DV} {xs' : List Value} (hx : TVs S xs xs') {μ' : PH} (h : tidy S0.μ.length xs S.μ = some μ') :
    ∃ S', S'.μ = μ' ∧ S'.σ = S.σ ∧ HOk S' ∧ TVs S' xs xs' ∧ Later S0 S' := by
  unfold tidy at h
  obtain ⟨μ1, h1, h⟩ := Option.bind_eq_some_iff.1 h
  obtain ⟨S1, e1, e2, e3, e4⟩ := foldBs_sim hS h1
  subst e1
  split at h
  · rename_i hc
    obtain ⟨hc1, hc2⟩ := hc
    simp only [Option.some.injEq] at h
    obtain ⟨tail, t1, t2, t3⟩ := trim_spec S0.μ.length S1.μ.length S1.μ
    rw [h] at t1 t3 hc1 hc2
    have hL1 := Later.trans hL0 e4
    let T : St := { S1 with μ := μ' }
    have hget : ∀ j, j < μ'.length → μ'[j]? = S1.μ[j]? := fun j hj => by rw [t1, List.getElem?_append_left hj]
    have hback : ∀ (j : Nat) b, T.μ[j]? = some b → S1.μ[j]? = some b := fun j b hj => by
      have hj : μ'[j]? = some b := hj
      rw [← hget j (List.getElem?_eq_some_iff.1 hj).1]; exact hj
    have hTv : ∀ v x, TV S1 v x → (∀ i ∈ idsV v, i < μ'.length) → TV T v x := fun v x hv hi => TV.trim (S := S1) (T := T) rfl rfl rfl (fun j hj => hget j hj) hv hi
    have hTvs : ∀ l l', TVs S1 l l' → (∀ i ∈ idsL l, i < μ'.length) → TVs T l l' := fun l l' hv hi => by
      have := hTv (.agg l) _ (.agg l l' hv) (by simpa [idsV] using hi)
      cases this with | agg _ _ h => exact h
    have hCV : ∀ op v x F, CV S1 op v x F → (∀ i ∈ idsV v, i < μ'.length) → CV T op v x F := fun op v x F hv hi => by
      cases hv with
      | rv h1 h2 => exact .rv h1 h2
      | tv h1 h2 => exact .tv h1 (hTv v x h2 hi)
    have hCVs : ∀ op l l' F, CVs S1 op l l' F → (∀ i ∈ idsL l, i < μ'.length) → CVs T op l l' F := fun op l => by
      induction l with
      | nil => intro l' F h _; cases h; exact .nil
      | cons v l ih =>
        intro l' F h hi
        cases h with
        | cons h1 h2 => exact .cons (hCV op v _ _ h1 fun i hv => hi i (by simp only [idsL]; exact List.mem_append_left _ hv)) (ih _ _ h2 fun i hv => hi i (by simp only [idsL]; exact List.mem_append_right _ hv))
    have hids : ∀ (j : Nat) b, T.μ[j]? = some b → ∀ i ∈ idsL b.el, i < μ'.length := fun j b hj i hi => by
      by_cases hcl : clL b.el = true
      · rw [cl_idsL _ hcl] at hi; cases hi
      · have hm : i ∈ idsB μ' := by
          unfold idsB
          exact List.mem_flatMap.2 ⟨b, List.mem_of_getElem? hj, by rw [if_neg hcl]; exact hi⟩
        have := List.all_eq_true.1 hc2 i hm
        simpa using this
    have hsub : ∀ b e i, e ∈ (b : PB).el → i ∈ idsL (cellsD e) → i ∈ idsL b.el := fun b e i he hi => idsL_mem he (by cases e <;> simpa [cellsD, idsV, idsL] using hi)
    have hokT : HOk T := by
      refine ⟨fun j b h1 h2 => ?_, fun j b h1 h2 => e3.nd j b (hback j b h1) h2, fun j b h1 h2 => e3.nz j b (hback j b h1) h2, fun j b h1 h2 => e3.wr j b (hback j b h1) h2, fun j j' b b' h1 h2 h3 h4 => e3.dj j j' b b' (hback j b h1) h2 (hback j' b' h3) h4, e3.zl, e3.md⟩
      have hB := e3.hb j b (hback j b h1) h2
      show HB T j b (S1.Fm j)
      generalize S1.Fm j = F at hB
      cases hB with
      | none g1 g2 => exact .none g1 g2
      | some b0 lo lb Fs g1 g2 g3 g4 g5 =>
        exact .some b0 lo lb Fs g1 g2 g3 g4 fun i e he => hCVs _ _ _ _ (g5 i e he) fun q hq => hids j b h1 q (hsub b e q (List.mem_of_getElem? he) hq)
    have hfoot : ∀ b, foot T b → foot S1 b := fun b ⟨j, blk, g1, g2, g3⟩ => ⟨j, blk, hback j blk g1, g2, g3⟩
    refine ⟨T, rfl, e2, hokT, hTvs xs xs' (hx.later e4 hS) fun i hi => ?_, ⟨hL1.nx, hL1.z, hL1.zn, hL1.fr, t3 hL1.len, fun j b hj => ?_, fun j b hj hl hw => ?_, fun b hb => hL1.ft b (hfoot b hb)⟩⟩
    · have := List.all_eq_true.1 hc1 i hi
      simpa using this
    · obtain ⟨b', q1, q2, q3⟩ := hL1.lv j b hj
      have hlt : j < μ'.length := Nat.lt_of_lt_of_le (List.getElem?_eq_some_iff.1 hj).1 (t3 hL1.len)
      exact ⟨b', by show μ'[j]? = _; rw [hget j hlt]; exact q1, q2, fun hv hl => by
        obtain ⟨r1, r2, r3⟩ := q3 hv hl
        exact ⟨r1, ⟨r2.1, r2.2⟩, r3⟩⟩
    · obtain ⟨b', q1, q2, q3, q4⟩ := hL1.sg j b hj hl hw
      have hlt : j < μ'.length := Nat.lt_of_lt_of_le (List.getElem?_eq_some_iff.1 hj).1 (t3 hL1.len)
      exact ⟨b', by show μ'[j]? = _; rw [hget j hlt]; exact q1, q2, q3, q4⟩
  · cases h
end Go.Lg.Pv
namespace Go.Lg.Pv
open Go Go.Lg
set_option linter.unusedVariables false
set_option linter.unnecessarySimpa false
set_option linter.unusedSimpArgs false
set_option linter.unusedSectionVars false

section
variable {α : Type} {res : α} {P : PEnv} {call : CW} {cal : Cal} {f N : Nat}

theorem packRW_sim {S : St} {fr : DFr} {fr' : Fr} (hf : FrRel S fr fr') : ∀ {rs : List (Nat × Nat)} {k : List DV → Option α}, packRW fr rs k = some res → ∃ xs xs', k xs = some res ∧ TVs S xs xs' ∧ ∀ {β : Type} (k' : List Value → Option β), packR fr' rs k' = k' xs'
  | [], k, h => ⟨[], [], h, .nil, fun _ => rfl⟩
  | (t, n) :: rs, k, h => by
    simp only [packRW] at h
    rcases hf.rg.look t with ⟨h1, h2⟩ | ⟨cs, cs', h1, h2, h3⟩
    · rw [h1] at h; cases h
    · rw [h1] at h
      rcases hf.ts.look t with ⟨g1, g2⟩ | ⟨x, y, g1, g2, g3⟩
      · rw [g1] at h; cases h
      · rw [g1] at h
        cases g3 with
        | none => cases h
        | some g3 =>
          cases g3 with
          | reg t' o =>
            cases o with
            | zero =>
              simp only at h
              cases hb : (Nat.beq cs.length n && Nat.beq t' t) with
              | false => rw [hb] at h; cases h
              | true =>
                rw [hb] at h
                simp only [cond_true] at h
                obtain ⟨xs, xs', e1, e2, e3⟩ := packRW_sim hf (k := fun l => k (cs ++ l)) h
                exact ⟨_, _, e1, h3.append e2, fun k' => by simp only [packR, h2, g2, ← h3.len, hb, cond_true, e3]⟩
            | succ o => simp at h
          | _ => simp at h
theorem packW_sim {S : St} {fr : DFr} {fr' : Fr} (hf : FrRel S fr fr') {rs : List (Nat × Nat)} : ∀ {ts : List Nat} {k : List DV → Option α}, packW fr rs ts k = some res → ∃ xs xs', k xs = some res ∧ TVs S xs xs' ∧ ∀ {β : Type} (k' : List Value → Option β), pack fr' rs ts k' = k' xs'
  | [], k, h => packRW_sim hf h
  | t :: ts, k, h => by
    simp only [packW] at h
    rcases hf.ts.look t with ⟨g1, g2⟩ | ⟨x, y, g1, g2, g3⟩
    · rw [g1] at h; cases h
    · rw [g1] at h
      cases g3 with
      | none => cases h
      | some g3 =>
        cases g3 with
        | val hv =>
          simp only at h
          obtain ⟨xs, xs', e1, e2, e3⟩ := packW_sim hf (k := fun l => k (_ :: l)) h
          exact ⟨_, _, e1, .cons hv e2, fun k' => by simp only [pack, g2, e3]⟩
        | _ => cases h
theorem unpackRW_sim {S : St} (n : Nat) : ∀ (rs : List (Nat × Nat)) {xs : List DV} {xs' : List Value}, TVs S xs xs' → FrRel S (unpackRW n rs xs) (unpackR n rs xs')
  | [], _, _, h => ⟨rfl, .nil, .nil⟩
  | (t, m) :: rs, _, _, h => by
    have ih := unpackRW_sim n rs (h.drop m)
    exact ⟨rfl, .cons (.some (.reg t 0)) ih.ts, .cons (h.take m) ih.rg⟩
theorem unpackW_sim {S : St} (n : Nat) (rs : List (Nat × Nat)) : ∀ (ts : List Nat) {xs : List DV} {xs' : List Value}, TVs S xs xs' → FrRel S (unpackW n rs ts xs) (unpack n rs ts xs')
  | [], _, _, h => unpackRW_sim n rs h
  | t :: ts, _, _, h => by
    cases h with
    | nil => exact ⟨rfl, .nil, .nil⟩
    | cons h1 h2 =>
      have ih := unpackW_sim n rs ts h2
      exact ⟨rfl, .cons (.some (.val h1)) ih.ts, ih.rg⟩

/-- code comes to one end, on both sides -/
def EwR (S0 : St) (k : Ex → DFr → PH → Option α) (res : α) (run' : ∀ {β : Type}, (Ex → Fr → LH → Option β) → Option β) : Prop :=
  ∃ e fr1 S1 fr1', k e fr1 S1.μ = some res ∧ (∀ {β : Type} (k' : Ex → Fr → LH → Option β), run' k' = k' e fr1' S1.σ) ∧ FrRel S1 fr1 fr1' ∧ HOk S1 ∧ Later S0 S1

theorem tdy_sim {S0 S : St} (hL0 : Later S0 S) (hS : HOk S) {t : Bool} {xs : List DV} {xs' : List Value} (hx : TVs S xs xs') {k : PH → Option α} (h : tdy t S0.μ.length xs S.μ k = some res) :
    ∃ S', k S'.μ = some res ∧ S'.σ = S.σ ∧ HOk S' ∧ TVs S' xs xs' ∧ Later S0 S' := by
  unfold tdy at h
  cases t with
  | false => exact ⟨S, h, rfl, hS, hx, hL0⟩
  | true =>
    simp only [cond_true] at h
    obtain ⟨μ', h1, h⟩ := Option.bind_eq_some_iff.1 h
    obtain ⟨S', e1, e2, e3, e4, e5⟩ := tidy_sim hL0 hS hx h1
    exact ⟨S', by rw [e1]; exact h, e2, e3, e4, e5⟩

theorem ew_sim (hG : ∀ T ti, P.E.ti T = some ti → tiGood ti = true) (hw : WSim P call cal) (hc : CSim call cal) {S0 : St} : ∀ (c : Code) {S : St} {fr : DFr} {fr' : Fr} {k : Ex → DFr → PH → Option α}, HOk S → FrRel S fr fr' → Later S0 S →
    ew P N call f S0.μ.length c fr S.μ k = some res → EwR S0 k res (fun k' => ev P.E N cal f c fr' S.σ k')
  | .skip, S, fr, fr', k, hS, hf, hL, h => ⟨.normal, fr, S, fr', h, fun k' => rfl, hf, hS, hL⟩
  | .ret, S, fr, fr', k, hS, hf, hL, h => ⟨.ret, fr, S, fr', h, fun k' => rfl, hf, hS, hL⟩
  | .exit id, S, fr, fr', k, hS, hf, hL, h => ⟨.exit id, fr, S, fr', h, fun k' => rfl, hf, hS, hL⟩
  | .seq a b, S, fr, fr', k, hS, hf, hL, h => by
    simp only [ew] at h
    obtain ⟨e, fr1, S1, fr1', g1, g2, g3, g4, g5⟩ := ew_sim hG hw hc a hS hf hL h
    cases e with
    | normal =>
      simp only at g1
      obtain ⟨e2, fr2, S2, fr2', q1, q2, q3, q4, q5⟩ := ew_sim hG hw hc b g4 g3 g5 g1
      exact ⟨e2, fr2, S2, fr2', q1, fun k' => by simp only [ev, g2]; exact q2 k', q3, q4, q5⟩
    | ret => exact ⟨.ret, fr1, S1, fr1', g1, fun k' => by simp only [ev, g2], g3, g4, g5⟩
    | exit id => exact ⟨.exit id, fr1, S1, fr1', g1, fun k' => by simp only [ev, g2], g3, g4, g5⟩
  | .cond c a b, S, fr, fr', k, hS, hf, hL, h => by
    simp only [ew] at h
    obtain ⟨v, v', h1, h2, h3⟩ := evV_sim hf h
    obtain ⟨t, rfl, h1⟩ := qB_some h1
    have := h2.bool_inv; subst this
    cases t with
    | true =>
      obtain ⟨e, fr1, S1, fr1', g1, g2, g3, g4, g5⟩ := ew_sim hG hw hc a (k := k) hS hf hL h1
      exact ⟨e, fr1, S1, fr1', g1, fun k' => by simp only [ev, h3, asB, cond_true]; exact g2 k', g3, g4, g5⟩
    | false =>
      obtain ⟨e, fr1, S1, fr1', g1, g2, g3, g4, g5⟩ := ew_sim hG hw hc b (k := k) hS hf hL h1
      exact ⟨e, fr1, S1, fr1', g1, fun k' => by simp only [ev, h3, asB, cond_false]; exact g2 k', g3, g4, g5⟩
  | .block id c, S, fr, fr', k, hS, hf, hL, h => by
    simp only [ew] at h
    obtain ⟨e, fr1, S1, fr1', g1, g2, g3, g4, g5⟩ := ew_sim hG hw hc c hS hf hL h
    cases e with
    | normal => exact ⟨.normal, fr1, S1, fr1', g1, fun k' => by simp only [ev, g2], g3, g4, g5⟩
    | ret => exact ⟨.ret, fr1, S1, fr1', g1, fun k' => by simp only [ev, g2], g3, g4, g5⟩
    | exit id' =>
      simp only at g1
      cases hb : Nat.beq id' id with
      | true => rw [hb] at g1; exact ⟨.normal, fr1, S1, fr1', g1, fun k' => by simp only [ev, g2, hb, cond_true], g3, g4, g5⟩
      | false => rw [hb] at g1; exact ⟨.exit id', fr1, S1, fr1', g1, fun k' => by simp only [ev, g2, hb, cond_false], g3, g4, g5⟩
  | .region id ops draw, S, fr, fr', k, hS, hf, hL, h => by
    simp only [ew] at h
    cases draw with
    | true =>
      simp only [cond_true] at h
      cases hd : drawOk ops.toList with
      | false => rw [hd] at h; cases h
      | true =>
        rw [hd] at h
        simp only [cond_true] at h
        obtain ⟨fr1, S1, fr1', g1, g2, g3, g4, g5⟩ := opsDW_sim (k := fun fr μ => k .normal fr μ) hG hw hc (g' := []) hS hf .nil h
        exact ⟨.normal, fr1, S1, fr1', g1, fun k' => by simp only [ev, hd, cond_true, g2], g3, g4, Later.trans hL g5⟩
    | false =>
      simp only [cond_false] at h
      obtain ⟨fr1, S1, fr1', g1, g2, g3, g4, g5⟩ := opsW_sim (k := fun fr μ => k .normal fr μ) hG hw hc hS hf h
      exact ⟨.normal, fr1, S1, fr1', g1, fun k' => by simp only [ev, cond_false, g2], g3, g4, Later.trans hL g5⟩
  | .loop c, S, fr, fr', k, hS, hf, hL, h => by
    simp only [ew] at h
    cases hr : Code.rid c with
    | none => rw [hr] at h; cases h
    | some i =>
      rw [hr] at h
      simp only at h
      obtain ⟨xs, xs', h1, h2, h3⟩ := packW_sim hf h
      obtain ⟨S1, t1, t2, t3, t4, t5⟩ := tdy_sim hL hS h2 h1
      have key : ∀ (m : Nat) (S : St) (xs : List DV) (xs' : List Value), HOk S → TVs S xs xs' → Later S0 S →
          iterD (fun rec xs μ => dN (sizeK (P.E.keep f i).2 (P.E.keep f i).1) xs fun l =>
            ew P N call f S0.μ.length c (unpackW fr.n (P.E.keep f i).2 (P.E.keep f i).1 l) μ fun
              | .normal, fr, μ => packW fr (P.E.keep f i).2 (P.E.keep f i).1 fun xs => tdy (P.td f i) S0.μ.length xs μ fun μ => rec xs μ
              | e, fr, μ => k e fr μ) m xs S.μ = some res →
          EwR S0 k res (fun k' => iterV (fun rec xs σ => unN (sizeK (P.E.keep f i).2 (P.E.keep f i).1) xs fun l =>
            ev P.E N cal f c (unpack fr'.n (P.E.keep f i).2 (P.E.keep f i).1 l) σ fun
              | .normal, fr, σ => pack fr (P.E.keep f i).2 (P.E.keep f i).1 fun xs => rec xs σ
              | e, fr, σ => k' e fr σ) m xs' S.σ) := by
        intro m
        induction m with
        | zero => intro S xs xs' _ _ _ h; cases h
        | succ m ih =>
          intro S xs xs' hS hx hL h
          simp only [iterD] at h
          obtain ⟨h1, h⟩ := dN_some h
          have hfr := unpackW_sim (S := S) fr.n (P.E.keep f i).2 (P.E.keep f i).1 hx
          obtain ⟨e, fr1, S2, fr1', g1, g2, g3, g4, g5⟩ := ew_sim hG hw hc c hS hfr hL h
          have hl : xs'.length = sizeK (P.E.keep f i).2 (P.E.keep f i).1 := by rw [← hx.len]; exact h1
          cases e with
          | normal =>
            simp only at g1
            obtain ⟨ys, ys', q1, q2, q3⟩ := packW_sim g3 g1
            obtain ⟨S3, r1, r2, r3, r4, r5⟩ := tdy_sim g5 g4 q2 q1
            obtain ⟨e, fr4, S4, fr4', u1, u2, u3, u4, u5⟩ := ih S3 ys ys' r3 r4 r5 r1
            refine ⟨e, fr4, S4, fr4', u1, fun k' => ?_, u3, u4, u5⟩
            simp only [iterV]
            rw [unN_of hl, ← hf.n]
            refine (g2 _).trans ?_
            simp only [q3]
            rw [← r2, hf.n]; exact u2 k'
          | ret =>
            refine ⟨.ret, fr1, S2, fr1', g1, fun k' => ?_, g3, g4, g5⟩
            simp only [iterV]
            rw [unN_of hl, ← hf.n]
            exact g2 _
          | exit id =>
            refine ⟨.exit id, fr1, S2, fr1', g1, fun k' => ?_, g3, g4, g5⟩
            simp only [iterV]
            rw [unN_of hl, ← hf.n]
            exact g2 _
      obtain ⟨e, fr2, S2, fr2', u1, u2, u3, u4, u5⟩ := key N S1 xs xs' t3 t4 t5 t1
      refine ⟨e, fr2, S2, fr2', u1, fun k' => ?_, u3, u4, u5⟩
      simp only [ev, hr, h3]
      rw [← t2]; exact u2 k'
  | .scope c, S, fr, fr', k, hS, hf, hL, h => by simp [ew] at h
  | .refuse _, S, fr, fr', k, hS, hf, hL, h => by simp [ew] at h

theorem resW_sim (hG : ∀ T ti, P.E.ti T = some ti → tiGood ti = true) : ∀ {rs : List ResultVar} {S : St} {fr : DFr} {fr' : Fr} {k : List DV → PH → Option α}, HOk S → FrRel S fr fr' → resW P fr S.μ rs k = some res →
    ∃ l l' S1, k l S1.μ = some res ∧ TVs S1 l l' ∧ HOk S1 ∧ Later S S1 ∧ S1.σ = S.σ ∧ ∀ {β : Type} (k' : List Value → Option β), resC P.E fr' S.σ rs k' = k' l'
  | [], S, fr, fr', k, hS, hf, h => ⟨[], [], S, h, .nil, hS, Later.refl S, rfl, fun _ => rfl⟩
  | .tmp t :: rs, S, fr, fr', k, hS, hf, h => by
    simp only [resW] at h
    rcases hf.ts.look t with ⟨g1, g2⟩ | ⟨x, y, g1, g2, g3⟩
    · rw [g1] at h; cases h
    · rw [g1] at h
      cases g3 with
      | none => cases h
      | some g3 =>
        cases g3 with
        | val hv =>
          simp only at h
          obtain ⟨l, l', S1, e1, e2, e3, e4, e5, e6⟩ := resW_sim hG hS hf h
          exact ⟨_, _, S1, e1, .cons (hv.later e4 hS) e2, e3, e4, e5, fun k' => by simp only [resC, g2, e6]⟩
        | _ => cases h
  | .cell a T :: rs, S, fr, fr', k, hS, hf, h => by
    simp only [resW] at h
    cases hti : P.E.ti T with
    | none => rw [hti] at h; cases h
    | some ti =>
      rw [hti] at h
      rcases hf.ts.look a with ⟨g1, g2⟩ | ⟨x, y, g1, g2, g3⟩
      · rw [g1] at h; cases h
      · rw [g1] at h
        cases g3 with
        | none => cases h
        | some g3 =>
          cases g3 with
          | val hv =>
            simp only at h
            obtain ⟨q, hq, h⟩ := Option.bind_eq_some_iff.1 h
            obtain ⟨S1, v', q1, q2, q3, q4, q5, q6⟩ := qLd_sim hS (tiGood_const (hG T ti hti)).2.1 hq hv
            rw [← q1] at h
            obtain ⟨l, l', S2, e1, e2, e3, e4, e5, e6⟩ := resW_sim hG q4 (hf.later q5 hS) h
            exact ⟨_, _, S2, e1, .cons (q3.later e4 q4) e2, e3, Later.trans q5 e4, e5.trans q6, fun k' => by simp only [resC, hti, g2, q2, Option.bind_some]; rw [← q6, e6]⟩
          | reg t off =>
            simp only at h
            rcases hf.rg.look t with ⟨r1, r2⟩ | ⟨cs, cs', r1, r2, r3⟩
            · rw [r1] at h; cases h
            · rw [r1] at h
              obtain ⟨v, v', q1, q2, q3⟩ := rdD_sim r3 h
              obtain ⟨l, l', S1, e1, e2, e3, e4, e5, e6⟩ := resW_sim hG hS hf q1
              exact ⟨_, _, S1, e1, .cons (q2.later e4 hS) e2, e3, e4, e5, fun k' => by simp only [resC, hti, g2, r2, q3, e6]⟩
          | _ => cases h
end

theorem argsD_sim {S : St} : ∀ {l : List DV} {l' : List Value} (i : Nat), TVs S l l' → TsRel S (argsD i l) (argsF i l')
  | [], _, i, h => by cases h; exact .nil
  | v :: l, _, i, h => by
    cases h with
    | cons h1 h2 => exact .cons (.some (.val h1)) (argsD_sim (i + 1) h2)

/-- what a clone says of an empty slice -/
def Cl1 (E : Env) (f z : Nat) : Prop := (∀ N n (σ : LH), evFn E N (n + 1) f [.slice none 0 0] σ = some ([.slice none 0 0], σ)) ∧
  ∀ N n (σ : LH) b o c, evFn E N (n + 1) f [.slice (some ⟨b, o, some z⟩) 0 c] σ = some ([.slice (some ⟨σ.next, 0, some z⟩) 0 1], σ.push { cells := [] })
def Cls (E : Env) : List (Nat × Nat) → Prop
  | [] => True
  | (f, z) :: r => Cl1 E f z ∧ Cls E r
def clT (l : List (Nat × Nat)) (n : Nat) : Nat := match look l n with | some z => z | none => 0
def ClOk (P : PEnv) : Prop := ∀ f, P.cl f ≠ 0 → Cl1 P.E f (P.cl f)
theorem cls_get {E : Env} : ∀ {l : List (Nat × Nat)}, Cls E l → ∀ p ∈ l, Cl1 E p.1 p.2
  | [], _, _, h => by cases h
  | (f, z) :: r, h, p, hp => by
    rcases List.mem_cons.1 hp with rfl | hp
    · exact h.1
    · exact cls_get h.2 p hp
theorem clOk_of {P : PEnv} {l : List (Nat × Nat)} (h : P.cl = clT l) (ha : Cls P.E l) : ClOk P := fun f hf => by
  rw [h] at hf ⊢
  unfold clT at hf ⊢
  cases hl : look l f with
  | none => rw [hl] at hf; exact absurd rfl hf
  | some z => exact cls_get ha _ (look_mem hl)
theorem hk_some {z : Nat} {args : List DV} {μ : PH} {k : Option (List DV × PH)} {r : List DV × PH} (h : hk z args μ k = some r) : k = some r ∨ ∃ sh, args = [.sl sh []] ∧ sh.length = z ∧ r = ([.e0 z], μ) := by
  unfold hk at h
  split at h
  · rename_i sh
    cases hb : Nat.beq sh.length z with
    | false => rw [hb] at h; exact .inl h
    | true => rw [hb] at h; cases h; exact .inr ⟨sh, rfl, Nat.eq_of_beq_eq_true hb, rfl⟩
  · exact .inl h
/-- one more call deep -/
theorem qfn_step {P : PEnv} (hG : ∀ T ti, P.E.ti T = some ti → tiGood ti = true) (hC : ClOk P) {N n : Nat} (hw : WSim P (qfn P N n) (evFn P.E N n)) (hc : CSim (qfn P N n) (evFn P.E N n)) : CSim (qfn P N (n + 1)) (evFn P.E N (n + 1)) := by
  intro f args res μ' S vargs h hS hv
  have h : bodyW P N (qfn P N n) f args S.μ = some (res, μ') ∨ ∃ sh, args = [.sl sh []] ∧ sh.length = P.cl f ∧ P.cl f ≠ 0 ∧ (res, μ') = ([.e0 sh.length], S.μ) := by
    simp only [qfn] at h
    cases hb : Nat.beq (P.cl f) 0 with
    | true => rw [hb] at h; exact .inl h
    | false =>
      rw [hb] at h
      rcases hk_some h with h | ⟨sh, h1, h2, h3⟩
      · exact .inl h
      · exact .inr ⟨sh, h1, h2, fun h0 => by rw [h0] at hb; exact absurd hb (by decide), by rw [h2]; exact h3⟩
  rcases h with h | ⟨sh, rfl, hz, h0, hr⟩
  rotate_left
  · cases hr
    obtain ⟨c1, c2⟩ := hC f h0
    have out : ∀ b o c, ∃ vres S', evFn P.E N (n + 1) f [.slice (some ⟨b, o, some sh.length⟩) 0 c] S.σ = some (vres, S'.σ) ∧ S'.μ = S.μ ∧ HOk S' ∧ TVs S' [.e0 sh.length] vres ∧ Later S S' := fun b o c => by
      obtain ⟨k1, k2⟩ := pushZ_ok hS []
      have e := c2 N n S.σ b o c
      rw [← hz] at e
      exact ⟨_, S.pushZ [], e, rfl, k1, .cons (.e0 _ _ _) .nil, k2⟩
    cases hv with
    | cons h1 h2 =>
      cases h2
      cases h1 with
      | slN => exact ⟨_, S, c1 N n S.σ, rfl, hS, .cons (.e0N _) .nil, Later.refl S⟩
      | slE _ b o => exact out b o 1
      | sl _ _ b o c blk => exact out b o c
  unfold bodyW at h
  cases hfn : P.E.fn f with
  | none => rw [hfn] at h; cases h
  | some fn =>
    rw [hfn] at h
    simp only at h
    cases hb : fn.body with
    | none => rw [hb] at h; cases h
    | some c =>
      rw [hb] at h
      simp only at h
      cases hl : Nat.ble args.length fn.ntmps with
      | false => rw [hl] at h; cases h
      | true =>
        rw [hl] at h
        simp only [cond_true] at h
        have hf : FrRel S ⟨fn.ntmps, argsD 0 args, []⟩ ⟨fn.ntmps, argsF 0 vargs, []⟩ := ⟨rfl, argsD_sim 0 hv, .nil⟩
        obtain ⟨e, fr1, S1, fr1', g1, g2, g3, g4, g5⟩ := ew_sim hG hw hc c hS hf (Later.refl S) h
        have fin : resW P fr1 S1.μ fn.results.toList (fun vs μ => some (vs, μ)) = some (res, μ') → (∀ k', ev P.E N (evFn P.E N n) f c ⟨fn.ntmps, argsF 0 vargs, []⟩ S.σ k' = resC P.E fr1' S1.σ fn.results.toList fun vs => some (vs, S1.σ)) ∨ True := fun _ => .inr trivial
        have done : (∀ x, e ≠ .exit x) → ∃ vres S', evFn P.E N (n + 1) f vargs S.σ = some (vres, S'.σ) ∧ S'.μ = μ' ∧ HOk S' ∧ TVs S' res vres ∧ Later S S' := fun hne => by
          have h1 : resW P fr1 S1.μ fn.results.toList (fun vs μ => some (vs, μ)) = some (res, μ') := by
            cases e with
            | exit x => exact absurd rfl (hne x)
            | normal => exact g1
            | ret => exact g1
          obtain ⟨l, l', S2, q1, q2, q3, q4, q5, q6⟩ := resW_sim hG g4 g3 h1
          simp only [Option.some.injEq, Prod.mk.injEq] at q1
          obtain ⟨rfl, q1⟩ := q1
          refine ⟨l', S2, ?_, q1, q3, q2, Later.trans g5 q4⟩
          simp only [evFn, hfn, hb, ← hv.len, hl, cond_true]
          refine (g2 _).trans ?_
          cases e with
          | exit x => exact absurd rfl (hne x)
          | normal => simp only [q6, q5]
          | ret => simp only [q6, q5]
        cases e with
        | exit x => cases g1
        | normal => exact done nofun
        | ret => exact done nofun
end Go.Lg.Pv
namespace Go.Lg.Pv
open Go Go.Lg
set_option linter.unusedVariables false
set_option linter.unnecessarySimpa false
set_option linter.unusedSimpArgs false
set_option linter.unusedSectionVars false

theorem zipT_sim : ∀ (cs : List DV) (S : St) (s : List Sh) (r : List DV) (μ' : PH), HOk S → zipS tkC S.μ s cs = some (r, μ') → ∀ cs', TVs S cs cs' →
    Kil S.μ μ' ∧ ∃ F', RVs S.σ r cs' F' ∧ Loose (S.w μ') F' ∧ ∀ b ∈ F', foot S b
  | [], S, s, r, μ', hS, h, cs', hc => by
    cases s <;> (simp only [zipS, Option.some.injEq, Prod.mk.injEq] at h; obtain ⟨rfl, rfl⟩ := h; cases hc; exact ⟨Kil.refl _, [], .nil, ⟨List.nodup_nil, fun b hb => (by cases hb), fun b hb => (by cases hb), fun b hb => (by cases hb)⟩, fun b hb => by cases hb⟩)
  | c :: cs, S, s, r, μ', hS, h, cs', hc => by
    cases hc with
    | cons hc1 hc2 =>
      simp only [zipS] at h
      obtain ⟨p, hp, h⟩ := Option.bind_eq_some_iff.1 h
      obtain ⟨q, hq, h⟩ := Option.bind_eq_some_iff.1 h
      cases h
      obtain ⟨k1, F1', g1, g2, g3⟩ := tkC_ok (v' := p.1) (μ' := p.2) hS hp hc1
      have hS1 := k1.hok hS
      obtain ⟨k2, F2', e1, e2, e3⟩ := zipT_sim cs (S.w p.2) _ q.1 q.2 hS1 hq _ (hc2.later k1.later hS)
      have e0 : Loose S ([] ++ []) := ⟨List.nodup_nil, fun b hb => (by cases hb), fun b hb => (by cases hb), fun b hb => (by cases hb)⟩
      refine ⟨k1.trans k2, F1' ++ F2', .cons g1 e1, Loose.join e0 k1 k2 g2 (fun b hb => .inr (g3 b hb)) e2 (fun b hb => .inr (e3 b hb)), fun b hb => ?_⟩
      rcases List.mem_append.1 hb with hb | hb
      · exact g3 b hb
      · exact k1.foot (e3 b hb)
theorem onT_sim {S : St} {s : List Sh} {v v' : DV} {μ' : PH} (hS : HOk S) (h : onS tkC S.μ s v = some (v', μ')) {x : Value} (hx : TV S v x) :
    Kil S.μ μ' ∧ ∃ F', RV S.σ v' x F' ∧ Loose (S.w μ') F' ∧ ∀ b ∈ F', foot S b := by
  unfold onS at h
  split at h
  · obtain ⟨p, hp, h⟩ := Option.map_eq_some_iff.1 h
    cases h
    obtain ⟨l', rfl, hl⟩ := hx.agg_inv
    obtain ⟨k1, F', g1, g2, g3⟩ := zipT_sim _ S s p.1 p.2 hS hp l' hl
    exact ⟨k1, F', .agg _ _ F' g1, g2, g3⟩
  · exact tkC_ok hS h hx

theorem adV_sim (wh : Bool) {S : St} {v : DV} {x : Value} {F : List Nat} (hS : HOk S) (hr : RV S.σ v x F) (hok : (cellsD v).all (fun c => okC c || isSl c) = true) (hF : Loose S F) :
    ∃ S', S'.μ = (adV wh S.μ v).2 ∧ More S S' ∧ HOk S' ∧ (∀ b, foot S' b → foot S b ∨ b ∈ F) ∧ TV S' (adV wh S.μ v).1 x := by
  have hok' : ∀ c ∈ cellsD v, okC c = true ∨ isSl c = true := fun c hc => by simpa using List.all_eq_true.1 hok c hc
  by_cases hag : ∃ l, v = .agg l
  · obtain ⟨l, rfl⟩ := hag
    cases hr with
    | agg _ l' _ h =>
      obtain ⟨S', e1, e2, e3, e4, e5, _⟩ := unfL_sim wh l S l' F hS (RVs.cvs h) (by simpa [cellsD] using hok') hF
      exact ⟨S', e1, e2, e3, e4, .agg _ _ e5⟩
  · have hv : ∀ l, v ≠ .agg l := fun l h => hag ⟨l, h⟩
    have hc := cellsD_one hv
    rw [hc] at hok'
    obtain ⟨S', e1, e2, e3, e4, e5, _⟩ := unfL_sim wh [v] S [x] F hS (by have := CVs.cons (S := S) (CV.rv (op := false) rfl hr) .nil; rwa [List.append_nil] at this) hok' hF
    have hl := unfL_length wh [v] S.μ
    have heq : adV wh S.μ v = (match (unfL wh S.μ [v]).1 with | [c] => c | _ => v, (unfL wh S.μ [v]).2) := by cases v <;> first | rfl | exact absurd rfl (hv _)
    rw [heq]
    generalize hu : (unfL wh S.μ [v]).1 = u at e5 hl
    match u, hl, e5 with
    | [c], _, .cons h1 .nil => exact ⟨S', e1, e2, e3, e4, h1⟩

/-- what a callee's arguments are: shown ones are frozen, moved ones its own -/
inductive ARs (σ : LH) (Z : Nat → Prop) : List (Md × List Sh) → List DV → List Value → List Nat → Prop where
  | nil : ARs σ Z [] [] [] []
  | snap {s : List Sh} {v : DV} {x : Value} {F G : List Nat} {ps : List (Md × List Sh)} {vs : List DV} {xs : List Value} : RV σ v x F → (∀ b ∈ F, Z b) → ARs σ Z ps vs xs G → ARs σ Z ((.snap, s) :: ps) (v :: vs) (x :: xs) G
  | move {s : List Sh} {v : DV} {x : Value} {F G : List Nat} {ps : List (Md × List Sh)} {vs : List DV} {xs : List Value} : RV σ v x F → ARs σ Z ps vs xs G → ARs σ Z ((.move, s) :: ps) (v :: vs) (x :: xs) (F ++ G)

theorem enter_sim : ∀ {ps : List (Md × List Sh)} {vs : List DV} {xs : List Value} {F : List Nat} {E : St} {as : List DV} {μ' : PH}, HOk E → ARs E.σ E.Z ps vs xs F → Loose E F → enter ps vs E.μ = some (as, μ') →
    ∃ E', E'.μ = μ' ∧ More E E' ∧ HOk E' ∧ (∀ b, foot E' b → foot E b ∨ b ∈ F) ∧ TVs E' as xs
  | _, _, _, _, E, as, μ', hE, .nil, hF, h => by
    simp only [enter, Option.some.injEq, Prod.mk.injEq] at h
    obtain ⟨rfl, rfl⟩ := h
    exact ⟨E, rfl, More.refl E, hE, fun b hb => .inl hb, .nil⟩
  | _, _, _, _, E, as, μ', hE, .snap hr hz ha, hF, h => by
    simp only [enter] at h
    obtain ⟨q, hq, h⟩ := Option.bind_eq_some_iff.1 h
    cases h
    obtain ⟨E', e1, e2, e3, e4, e5⟩ := enter_sim (as := q.1) (μ' := q.2) hE ha hF hq
    exact ⟨E', e1, e2, e3, e4, .cons (e2.tv (hr.tv hz)) e5⟩
  | _, _, _, _, E, as, μ', hE, .move hr ha, hF, h => by
    simp only [enter] at h
    split at h
    · rename_i hok
      obtain ⟨q, hq, h⟩ := Option.bind_eq_some_iff.1 h
      cases h
      obtain ⟨E1, e1, e2, e3, e4, e5⟩ := adV_sim true hE hr hok (hF.sub (List.sublist_append_left _ _))
      rw [← e1] at hq
      have hF2 := hF.sub (List.sublist_append_right _ _)
      obtain ⟨E', q1, q2, q3, q4, q5⟩ := enter_sim (as := q.1) (μ' := q.2) e3 (by rw [e2.σ, e2.z]; exact ha) ⟨hF2.nd, fun b hb => by rw [e2.z]; exact hF2.nz b hb, fun b hb => by rw [e2.σ]; exact hF2.wr b hb, fun b hb hf => by
        rcases e4 b hf with h | h
        · exact hF2.nf b hb h
        · exact (List.nodup_append.1 hF.nd).2.2 b h b hb rfl⟩ hq
      refine ⟨E', q1, e2.trans q2, q3, fun b hb => ?_, .cons (q2.tv e5) q5⟩
      rcases q4 b hb with h | h
      · exact (e4 b h).imp (fun h => h) (List.mem_append_left _)
      · exact .inr (List.mem_append_right _ h)
    · cases h

/-- what was moved -/
inductive Pk (σ : LH) : List (Md × List Sh) → List (Option DV) → List Value → List Nat → Prop where
  | nil : Pk σ [] [] [] []
  | snap {s : List Sh} {x : Value} {G : List Nat} {ps : List (Md × List Sh)} {os : List (Option DV)} {xs : List Value} : Pk σ ps os xs G → Pk σ ((.snap, s) :: ps) (none :: os) (x :: xs) G
  | move {s : List Sh} {v : DV} {x : Value} {F G : List Nat} {ps : List (Md × List Sh)} {os : List (Option DV)} {xs : List Value} : RV σ v x F → Pk σ ps os xs G → Pk σ ((.move, s) :: ps) (some v :: os) (x :: xs) (F ++ G)
theorem pack1_sim : ∀ {ps : List (Md × List Sh)} {vs : List DV} {xs : List Value} {S : St} {os : List (Option DV)} {μ' : PH}, HOk S → TVs S vs xs → pack1 ps vs S.μ = some (os, μ') →
    Kil S.μ μ' ∧ ∃ F, Pk S.σ ps os xs F ∧ Loose (S.w μ') F ∧ ∀ b ∈ F, foot S b
  | [], [], _, S, os, μ', hS, hv, h => by
    cases hv
    simp only [pack1, Option.some.injEq, Prod.mk.injEq] at h
    obtain ⟨rfl, rfl⟩ := h
    exact ⟨Kil.refl _, [], .nil, ⟨List.nodup_nil, fun b hb => (by cases hb), fun b hb => (by cases hb), fun b hb => (by cases hb)⟩, fun b hb => by cases hb⟩
  | (m, s) :: ps, v :: vs, _, S, os, μ', hS, hv, h => by
    cases hv with
    | cons h1 h2 =>
      cases m with
      | snap =>
        simp only [pack1] at h
        obtain ⟨q, hq, h⟩ := Option.bind_eq_some_iff.1 h
        cases h
        obtain ⟨k1, F, g1, g2, g3⟩ := pack1_sim (os := q.1) (μ' := q.2) hS h2 hq
        exact ⟨k1, F, .snap g1, g2, g3⟩
      | move =>
        simp only [pack1] at h
        obtain ⟨p, hp, h⟩ := Option.bind_eq_some_iff.1 h
        obtain ⟨q, hq, h⟩ := Option.bind_eq_some_iff.1 h
        cases h
        obtain ⟨k1, F1, g1, g2, g3⟩ := onT_sim (v' := p.1) (μ' := p.2) hS hp h1
        obtain ⟨k2, F2, e1, e2, e3⟩ := pack1_sim (S := S.w p.2) (os := q.1) (μ' := q.2) (k1.hok hS) (h2.later k1.later hS) hq
        have e0 : Loose S ([] ++ []) := ⟨List.nodup_nil, fun b hb => (by cases hb), fun b hb => (by cases hb), fun b hb => (by cases hb)⟩
        refine ⟨k1.trans k2, F1 ++ F2, .move g1 e1, Loose.join e0 k1 k2 g2 (fun b hb => .inr (g3 b hb)) e2 (fun b hb => .inr (e3 b hb)), fun b hb => ?_⟩
        rcases List.mem_append.1 hb with hb | hb
        · exact g3 b hb
        · exact k1.foot (e3 b hb)
      | _ => simp only [pack1, reduceCtorEq] at h
  | [], _ :: _, _, S, os, μ', hS, hv, h => by simp only [pack1, reduceCtorEq] at h
  | _ :: _, [], _, S, os, μ', hS, hv, h => by simp only [pack1, reduceCtorEq] at h
theorem pack2_sim {S : St} (hS : HOk S) : ∀ {ps : List (Md × List Sh)} {vs : List DV} {xs : List Value} {os : List (Option DV)} {F : List Nat} {r : List DV}, Pk S.σ ps os xs F → TVs S vs xs → pack2 S.μ ps vs os = some r → ARs S.σ S.frz.Z ps r xs F
  | _, [], _, _, _, r, .nil, hv, h => by simp only [pack2, Option.some.injEq] at h; subst h; exact .nil
  | _, _ :: _, _, _, _, r, .nil, hv, h => by cases hv
  | _, [], _, _, _, r, .snap _, hv, h => by cases hv
  | _, [], _, _, _, r, .move _ _, hv, h => by cases hv
  | _, v :: vs, _, _, _, r, .snap hp, hv, h => by
    cases hv with
    | cons h1 h2 =>
      simp only [pack2] at h
      obtain ⟨p, hp', h⟩ := Option.bind_eq_some_iff.1 h
      obtain ⟨q, hq, h⟩ := Option.bind_eq_some_iff.1 h
      cases h
      obtain ⟨F, g1, g2⟩ := onE_val (snC_ok hS 6) hp' h1.frz
      exact .snap g1 g2 (pack2_sim hS hp h2 hq)
  | _, v :: vs, _, _, _, r, .move hr hp, hv, h => by
    cases hv with
    | cons h1 h2 =>
      simp only [pack2, Option.bind_some] at h
      obtain ⟨q, hq, h⟩ := Option.bind_eq_some_iff.1 h
      cases h
      exact .move hr (pack2_sim hS hp h2 hq)

theorem resO_sim : ∀ {rs : List (List Sh)} {vs : List DV} {xs : List Value} {S : St} {r : List DV} {μ' : PH}, HOk S → TVs S vs xs → resO rs vs S.μ = some (r, μ') →
    Kil S.μ μ' ∧ ∃ F, RVs S.σ r xs F ∧ Loose (S.w μ') F ∧ ∀ b ∈ F, foot S b
  | [], [], _, S, r, μ', hS, hv, h => by
    cases hv
    simp only [resO, Option.some.injEq, Prod.mk.injEq] at h
    obtain ⟨rfl, rfl⟩ := h
    exact ⟨Kil.refl _, [], .nil, ⟨List.nodup_nil, fun b hb => (by cases hb), fun b hb => (by cases hb), fun b hb => (by cases hb)⟩, fun b hb => by cases hb⟩
  | s :: rs, v :: vs, _, S, r, μ', hS, hv, h => by
    cases hv with
    | cons h1 h2 =>
      simp only [resO] at h
      obtain ⟨p, hp, h⟩ := Option.bind_eq_some_iff.1 h
      obtain ⟨q, hq, h⟩ := Option.bind_eq_some_iff.1 h
      cases h
      obtain ⟨k1, F1, g1, g2, g3⟩ := onT_sim (v' := p.1) (μ' := p.2) hS hp h1
      obtain ⟨k2, F2, e1, e2, e3⟩ := resO_sim (S := S.w p.2) (r := q.1) (μ' := q.2) (k1.hok hS) (h2.later k1.later hS) hq
      have e0 : Loose S ([] ++ []) := ⟨List.nodup_nil, fun b hb => (by cases hb), fun b hb => (by cases hb), fun b hb => (by cases hb)⟩
      refine ⟨k1.trans k2, F1 ++ F2, .cons g1 e1, Loose.join e0 k1 k2 g2 (fun b hb => .inr (g3 b hb)) e2 (fun b hb => .inr (e3 b hb)), fun b hb => ?_⟩
      rcases List.mem_append.1 hb with hb | hb
      · exact g3 b hb
      · exact k1.foot (e3 b hb)
  | [], _ :: _, _, S, r, μ', hS, hv, h => by simp only [resO, reduceCtorEq] at h
  | _ :: _, [], _, S, r, μ', hS, hv, h => by simp only [resO, reduceCtorEq] at h
theorem resF_sim {S : St} (hS : HOk S) : ∀ {rs : List (List Sh)} {vs : List DV} {xs : List Value} {r : List DV}, TVs S vs xs → resF S.μ rs vs = some r → ∃ F, RVs S.σ r xs F ∧ ∀ b ∈ F, S.frz.Z b
  | [], [], _, r, hv, h => by
    cases hv
    simp only [resF, Option.some.injEq] at h; subst h
    exact ⟨[], .nil, fun b hb => by cases hb⟩
  | s :: rs, v :: vs, _, r, hv, h => by
    cases hv with
    | cons h1 h2 =>
      simp only [resF] at h
      obtain ⟨p, hp, h⟩ := Option.bind_eq_some_iff.1 h
      obtain ⟨q, hq, h⟩ := Option.bind_eq_some_iff.1 h
      cases h
      obtain ⟨F, g1, g2⟩ := onE_val (snC_ok hS 6) hp h1.frz
      obtain ⟨G, e1, e2⟩ := resF_sim hS h2 hq
      exact ⟨F ++ G, .cons g1 e1, fun b hb => (List.mem_append.1 hb).elim (g2 b) (e2 b)⟩
  | [], _ :: _, _, r, hv, h => by simp only [resF, reduceCtorEq] at h
  | _ :: _, [], _, r, hv, h => by simp only [resF, reduceCtorEq] at h

theorem adL_sim : ∀ {vs : List DV} {xs : List Value} {F : List Nat} {S : St}, HOk S → RVs S.σ vs xs F → Loose S F → vs.all (fun v => (cellsD v).all fun c => okC c || isSl c) = true →
    ∃ S', S'.μ = (adL true S.μ vs).2 ∧ More S S' ∧ HOk S' ∧ (∀ b, foot S' b → foot S b ∨ b ∈ F) ∧ TVs S' (adL true S.μ vs).1 xs
  | [], _, _, S, hS, h, hF, hok => by cases h; exact ⟨S, rfl, More.refl S, hS, fun b hb => .inl hb, .nil⟩
  | v :: vs, _, _, S, hS, h, hF, hok => by
    cases h with
    | @cons _ x F1 _ l' F2 h1 h2 =>
      simp only [List.all_cons, Bool.and_eq_true] at hok
      obtain ⟨S1, e1, e2, e3, e4, e5⟩ := adV_sim true hS h1 hok.1 (hF.sub (List.sublist_append_left _ _))
      have hF2 := hF.sub (List.sublist_append_right F1 F2)
      obtain ⟨S2, q1, q2, q3, q4, q5⟩ := adL_sim (S := S1) e3 (by rw [e2.σ]; exact h2) ⟨hF2.nd, fun b hb => by rw [e2.z]; exact hF2.nz b hb, fun b hb => by rw [e2.σ]; exact hF2.wr b hb, fun b hb hf => by
        rcases e4 b hf with h | h
        · exact hF2.nf b hb h
        · exact (List.nodup_append.1 hF.nd).2.2 b h b hb rfl⟩ hok.2
      refine ⟨S2, by rw [q1, e1]; simp only [adL, cond_true], e2.trans q2, q3, fun b hb => ?_, ?_⟩
      · rcases q4 b hb with h | h
        · exact (e4 b h).imp (fun h => h) (List.mem_append_left _)
        · exact .inr (List.mem_append_right _ h)
      · simp only [adL, cond_true]
        rw [← e1]; exact .cons (q2.tv e5) q5
theorem adL_false : ∀ (vs : List DV) (μ : PH), adL false μ vs = (vs, μ)
  | [], μ => rfl
  | v :: vs, μ => by simp only [adL, cond_false, adL_false vs μ]

/-- a state with no own memory -/
def St.bare (σ : LH) (Z : Nat → Prop) : St := ⟨σ, Z, [], fun _ => none, fun _ => []⟩
theorem bare_ok {σ : LH} {Z : Nat → Prop} (hz : ∀ b, Z b → b < σ.next) (hm : MD σ) : HOk (St.bare σ Z) :=
  ⟨fun id blk h => (by simp [St.bare] at h), fun id blk h => (by simp [St.bare] at h), fun id blk h => (by simp [St.bare] at h), fun id blk h => (by simp [St.bare] at h), fun id id' blk blk' h => (by simp [St.bare] at h), hz, hm⟩
theorem bare_foot {σ : LH} {Z : Nat → Prop} {b : Nat} : ¬ foot (St.bare σ Z) b := fun ⟨id, blk, h, _⟩ => by simp [St.bare] at h

theorem snap_nil : ∀ {ps : List (Md × List Sh)} {vs : List DV} {μ μ' : PH} {os : List (Option DV)}, pack1 ps vs μ = some (os, μ') → ps.all (fun q => isSnap q.1) = true → μ' = μ ∧ ∀ {xs : List Value} {σ : LH}, vs.length = xs.length → Pk σ ps os xs []
  | [], [], μ, μ', os, h, _ => by
    simp only [pack1, Option.some.injEq, Prod.mk.injEq] at h
    obtain ⟨rfl, rfl⟩ := h
    exact ⟨rfl, fun {xs σ} hl => by cases xs with | nil => exact .nil | cons => cases hl⟩
  | (m, s) :: ps, v :: vs, μ, μ', os, h, ha => by
    simp only [List.all_cons, Bool.and_eq_true] at ha
    cases m with
    | snap =>
      simp only [pack1] at h
      obtain ⟨q, hq, h⟩ := Option.bind_eq_some_iff.1 h
      cases h
      obtain ⟨h1, h2⟩ := snap_nil (os := q.1) (μ' := q.2) hq ha.2
      exact ⟨h1, fun {xs σ} hl => by cases xs with | nil => cases hl | cons x xs => exact .snap (h2 (by simpa using hl))⟩
    | _ => simp [isSnap] at ha
  | [], _ :: _, μ, μ', os, h, _ => by simp only [pack1, reduceCtorEq] at h
  | _ :: _, [], μ, μ', os, h, _ => by simp only [pack1, reduceCtorEq] at h

theorem nC_sim {P : PEnv} {call : CW} {cal : Cal} (hc : CSim call cal) {g : Nat} {sg : Sig} {args res : List DV} {μ' : PH} {S : St} {vargs : List Value} (h : nC sg.ps sg.fresh (run1 sg (call g)) args S.μ = some (res, μ')) (hS : HOk S) (hv : TVs S args vargs) :
    ∃ vres S', cal g vargs S.σ = some (vres, S'.σ) ∧ S'.μ = μ' ∧ HOk S' ∧ TVs S' res vres ∧ Later S S' ∧ Tch S S' (idsL args) := by
  unfold nC at h
  obtain ⟨p, hp, h⟩ := Option.bind_eq_some_iff.1 h
  obtain ⟨vs, hvs, h⟩ := Option.bind_eq_some_iff.1 h
  split at h
  rotate_left
  · cases h
  rename_i hcond
  obtain ⟨r, hr, h⟩ := Option.bind_eq_some_iff.1 h
  unfold run1 at hr
  obtain ⟨a, ha, hr⟩ := Option.bind_eq_some_iff.1 hr
  obtain ⟨q, hq, hr⟩ := Option.bind_eq_some_iff.1 hr
  cases hfr : sg.fresh with
  | true =>
    rw [hfr] at h hr hvs
    simp only [cond_true, if_true] at h hr hvs
    obtain ⟨w, hw, hr⟩ := Option.bind_eq_some_iff.1 hr
    cases hr
    simp only [forall_const] at h
    split at h
    rotate_left
    · cases h
    rename_i hok
    simp only [Option.some.injEq] at h
    obtain ⟨k1, F, g1, g2, g3⟩ := pack1_sim (os := p.1) (μ' := p.2) hS hv hp
    have hSp := k1.hok hS
    have hA := pack2_sim (S := S.w p.2) hSp g1 (hv.later k1.later hS) hvs
    have hZlt : ∀ b, (S.w p.2).frz.Z b → b < S.σ.next := fun b hb => hb.elim (hS.zl b) fun hf => hSp.flt hf
    have hE0 := bare_ok (σ := S.σ) (Z := (S.w p.2).frz.Z) hZlt hS.md
    have hFE : Loose (St.bare S.σ (S.w p.2).frz.Z) F := ⟨g2.nd, fun b hb hz => hz.elim (g2.nz b hb) (g2.nf b hb), g2.wr, fun b _ hf => bare_foot hf⟩
    obtain ⟨E, e1, e2, e3, e4, e5⟩ := enter_sim (as := a.1) (μ' := a.2) hE0 hA hFE ha
    have hEF : ∀ b, foot E b → b ∈ F := fun b hb => (e4 b hb).resolve_left bare_foot
    rw [← e1] at hq
    have hEσ : E.σ = S.σ := e2.σ
    have hEZ : E.Z = (S.w p.2).frz.Z := e2.z
    obtain ⟨vres, C, c1, c2, c3, c4, c5⟩ := hc g a.1 q.1 q.2 E vargs hq e3 e5
    rw [hEσ] at c1
    rw [← c2] at hw
    obtain ⟨k2, Fr, r1, r2, r3⟩ := resO_sim (S := C) (r := w.1) (μ' := w.2) c3 c4 hw
    -- what the caller has, and what is frozen for it, stays
    have hkeep : ∀ b, (S.w p.2).frz.Z b → C.σ.mem b = S.σ.mem b := fun b hb => by
      rw [← hEσ]
      refine c5.fr b (by rw [hEσ]; exact hZlt b hb) fun hf => ?_
      exact hb.elim (g2.nz b (hEF b hf)) (g2.nf b (hEF b hf))
    have hnx : S.σ.next ≤ C.σ.next := by rw [← hEσ]; exact c5.nx
    let B : St := { S with σ := C.σ, μ := p.2 }
    have hfootB : ∀ b, foot B b ↔ foot (S.w p.2) b := fun b => Iff.rfl
    have hoth : ∀ b, b < S.σ.next → ¬ foot S b → C.σ.mem b = S.σ.mem b := fun b hb hf => by
      rw [← hEσ]
      exact c5.fr b (by rw [hEσ]; exact hb) fun hh => hf (g3 b (hEF b hh))
    have hLB : Later S B := by
      refine ⟨hnx, fun _ h => h, fun _ h => .inl h, hoth, by show S.μ.length ≤ p.2.length; rw [k1.len]; exact Nat.le_refl _, fun j b hj => ?_, fun j b hj hl hwh => ?_, fun b hb => .inl (k1.foot hb)⟩
      · obtain ⟨b', q1, q2, q3⟩ := k1.later.lv j b hj
        refine ⟨b', q1, q2, fun hv hl => ?_⟩
        obtain ⟨u1, u2, u3⟩ := q3 hv hl
        refine ⟨u1, ⟨rfl, fun k lo hk => ?_⟩, u3⟩
        unfold lenOf
        rw [show B.σ.mem k = S.σ.mem k from hkeep k (.inr (own_foot hSp q1 hl hk))]
      · obtain ⟨b', q1, q2, q3, _⟩ := k1.later.sg j b hj hl hwh
        exact ⟨b', q1, q2, q3, fun k lo hk => SegOk.mem (hkeep k (.inr (own_foot hSp q1 q2 hk)))⟩
    have hokB : HOk B := ⟨fun j b h1 h2 => (hSp.hb j b h1 h2).mono (S' := B) rfl (fun k hk => hkeep k (.inr ⟨j, b, h1, h2, hk⟩)) (fun v x hv => by
        have hv' : TV (S.w p.2) v x := hv
        exact TV.mono (S := S.w p.2) (S' := B) (fun b hb => ⟨hb, hkeep b (.inl hb)⟩) (fun j b hj => ⟨b, hj, Nat.le_refl _, fun _ hl => ⟨hl, ⟨rfl, fun k lo hk => by unfold lenOf; rw [show B.σ.mem k = S.σ.mem k from hkeep k (.inr (own_foot hSp hj hl hk))]; rfl⟩, rfl, rfl⟩⟩) hv'),
      fun j b h1 h2 => hSp.nd j b h1 h2, fun j b h1 h2 => hSp.nz j b h1 h2, fun j b h1 h2 k hk => by rw [show B.σ.mem k = S.σ.mem k from hkeep k (.inr ⟨j, b, h1, h2, hk⟩)]; exact hSp.wr j b h1 h2 k hk, fun j j' b b' h1 h2 h3 h4 => hSp.dj j j' b b' h1 h2 h3 h4, fun b hb => Nat.lt_of_lt_of_le (hS.zl b hb) hnx, c3.md⟩
    have hFr : Loose B Fr := ⟨r2.nd, fun b hb hz => r2.nz b hb (c5.z b (by rw [hEZ]; exact .inl hz)), r2.wr, fun b hb hf => r2.nz b hb (c5.z b (by rw [hEZ]; exact .inr hf))⟩
    obtain ⟨S', s1, s2, s3, s4, s5⟩ := adL_sim (S := B) hokB r1 hFr hok
    have hs1 : S'.μ = μ' := by rw [s1]; show (adL true p.2 w.1).2 = μ'; rw [h]
    have hres : (adL true B.μ w.1).1 = res := by show (adL true p.2 w.1).1 = res; rw [h]
    rw [hres] at s5
    have hFrf : ∀ b ∈ Fr, foot S b ∨ S.σ.next ≤ b := fun b hb => by
      rcases c5.ft b (r3 b hb) with h | h
      · exact .inl (g3 b (hEF b h))
      · exact .inr (by rw [hEσ] at h; exact h)
    have hL : Later S S' := by
      refine ⟨by rw [s2.σ]; exact hnx, fun b hb => by rw [s2.z]; exact hb, fun b hb => by rw [s2.z] at hb; exact .inl hb, fun b hb hf => by rw [s2.σ]; exact hoth b hb hf, Nat.le_trans hLB.len s2.len, fun j b hj => ?_, fun j b hj hl hwh => ?_, fun b hb => ?_⟩
      · obtain ⟨b', q1, q2, q3⟩ := hLB.lv j b hj
        obtain ⟨o1, o2, o3⟩ := s2.old j (List.getElem?_eq_some_iff.1 q1).1
        refine ⟨b', o1.trans q1, q2, fun hv hl => ?_⟩
        obtain ⟨u1, u2, u3⟩ := q3 hv hl
        exact ⟨u1, ⟨o2.trans u2.1, fun k lo hk => by rw [s2.σ]; exact u2.2 k lo hk⟩, u3⟩
      · obtain ⟨b', q1, q2, q3, q4⟩ := hLB.sg j b hj hl hwh
        obtain ⟨o1, o2, o3⟩ := s2.old j (List.getElem?_eq_some_iff.1 q1).1
        exact ⟨b', o1.trans q1, q2, q3, fun k lo hk => by rw [s2.σ]; exact q4 k lo hk⟩
      · rcases s4 b hb with h | h
        · exact .inl (k1.foot h)
        · exact hFrf b h
    refine ⟨vres, S', by rw [c1, s2.σ], hs1, s3, s5, hL, fun id ver blk hb hlv _ b lo hι => ?_⟩
    -- blocks that live on were not the callee's
    obtain ⟨blk', hb'⟩ := Option.isSome_iff_exists.1 hlv
    obtain ⟨b1, b2, b3⟩ := bk_some hb
    have hlt := (List.getElem?_eq_some_iff.1 b1).1
    obtain ⟨o1, _, _⟩ := s2.old id (by show id < p.2.length; rw [k1.len]; exact hlt)
    obtain ⟨d1, d2, d3⟩ := bk_some hb'
    rw [o1] at d1
    rw [s2.σ]
    exact hkeep b (.inr (own_foot hSp d1 d2 hι))
  | false =>
    rw [hfr] at h hr hvs hcond
    simp only [Bool.false_eq_true, false_or] at hcond
    simp only [cond_false, Bool.false_eq_true, false_implies, if_true, Option.some.injEq] at h hr hvs
    obtain ⟨w, hw, hr⟩ := Option.bind_eq_some_iff.1 hr
    cases hr
    rw [adL_false] at h
    cases h
    obtain ⟨hids, hsn⟩ := hcond
    obtain ⟨hμ, hPk⟩ := snap_nil (os := p.1) (μ' := p.2) hp hsn
    have hE0 := bare_ok (σ := S.σ) (Z := S.Z) hS.zl hS.md
    have hv0 : TVs (St.bare S.σ S.Z) args vargs := by
      have h1 : ∀ T : St, T.Z = S.Z → T.σ = S.σ → T.ι = S.ι → T.μ = [] → TVs T args vargs := fun T hz hσ hι hm => by
        have := TV.trim (S := S) (T := T) hz hσ hι (fun j hj => by rw [hm] at hj; simp at hj) (.agg _ _ hv) (by simp [idsV, hids])
        cases this with | agg _ _ h => exact h
      have h2 := h1 { S with μ := [] } rfl rfl rfl rfl
      -- no block, whatever its place
      have : TV (St.bare S.σ S.Z) (.agg args) (.agg vargs.toArray) := TV.mono (S := { S with μ := [] }) (S' := St.bare S.σ S.Z) (fun b hb => ⟨hb, rfl⟩) (fun j b hj => by simp at hj) (.agg _ _ h2)
      cases this with | agg _ _ h => exact h
    have hA := pack2_sim (S := St.bare S.σ S.Z) hE0 (hPk hv.len) hv0 hvs
    have hA' : ARs S.σ (St.bare S.σ S.Z).frz.Z sg.ps vs vargs [] := hA
    have hzz : (St.bare S.σ S.Z).frz.Z = S.Z := by
      funext b; apply propext
      exact ⟨fun h => h.elim (fun h => h) fun hf => absurd hf bare_foot, fun h => .inl h⟩
    rw [hzz] at hA'
    obtain ⟨E, e1, e2, e3, e4, e5⟩ := enter_sim (as := a.1) (μ' := a.2) hE0 hA' ⟨List.nodup_nil, fun b hb => (by cases hb), fun b hb => (by cases hb), fun b hb => (by cases hb)⟩ ha
    have hEF : ∀ b, ¬ foot E b := fun b hb => (e4 b hb).elim bare_foot nofun
    rw [← e1] at hq
    have hEσ : E.σ = S.σ := e2.σ
    have hEZ : E.Z = S.Z := e2.z
    obtain ⟨vres, C, c1, c2, c3, c4, c5⟩ := hc g a.1 q.1 q.2 E vargs hq e3 e5
    rw [hEσ] at c1
    rw [← c2] at hw
    obtain ⟨Fr, r1, r2⟩ := resF_sim c3 c4 hw
    have hnx : S.σ.next ≤ C.σ.next := by rw [← hEσ]; exact c5.nx
    have hlow : ∀ b, b < S.σ.next → C.σ.mem b = S.σ.mem b := fun b hb => by rw [← hEσ]; exact c5.fr b (by rw [hEσ]; exact hb) (hEF b)
    have hz' : ∀ b, C.frz.Z b → S.Z b ∨ S.σ.next ≤ b := fun b hb => by
      rcases hb with hb | hb
      · rcases c5.zn b hb with h | h | h
        · rw [hEZ] at h; exact .inl h
        · exact absurd h (hEF b)
        · rw [hEσ] at h; exact .inr h
      · rcases c5.ft b hb with h | h
        · exact absurd h (hEF b)
        · rw [hEσ] at h; exact .inr h
    let S' : St := { S with σ := C.σ, Z := C.frz.Z }
    have hL : Later S S' := by
      refine ⟨hnx, fun b hb => .inl (c5.z b (by rw [hEZ]; exact hb)), fun b hb => (hz' b hb).imp (fun h => h) .inr, fun b hb _ => hlow b hb, Nat.le_refl _, fun j b hj => ⟨b, hj, Nat.le_refl _, fun _ hl => ⟨hl, ⟨rfl, fun k lo hk => by unfold lenOf; rw [show S'.σ.mem k = S.σ.mem k from hlow k (hS.flt (own_foot hS hj hl hk))]⟩, rfl, rfl, rfl, rfl⟩⟩, fun j b hj hl hw => ⟨b, hj, hl, rfl, fun k lo hk => SegOk.mem (hlow k (hS.flt (own_foot hS hj hl hk)))⟩, fun b hb => .inl hb⟩
    have ht : ∀ v x, TV S v x → TV S' v x := fun v x hv => hv.later hL hS
    have hok : HOk S' := ⟨fun j b h1 h2 => (hS.hb j b h1 h2).mono (S' := S') rfl (fun k hk => hlow k (hS.flt ⟨j, b, h1, h2, hk⟩)) ht, fun j b h1 h2 => hS.nd j b h1 h2, fun j b h1 h2 k hk hz => (hz' k hz).elim (hS.nz j b h1 h2 k hk) fun hn => by have := hS.flt ⟨j, b, h1, h2, hk⟩; omega,
      fun j b h1 h2 k hk => by rw [show S'.σ.mem k = S.σ.mem k from hlow k (hS.flt ⟨j, b, h1, h2, hk⟩)]; exact hS.wr j b h1 h2 k hk, fun j j' b b' h1 h2 h3 h4 => hS.dj j j' b b' h1 h2 h3 h4, fun b hb => hb.elim (c3.zl b) fun hf => c3.flt hf, c3.md⟩
    refine ⟨vres, S', c1, hμ.symm, hok, ?_, hL, fun id ver blk hb _ _ b lo hι => hlow b (own_blk hS hb hι).2⟩
    have : TV S' (.agg w) (.agg vres.toArray) := RV.tv (S := S') (.agg _ _ _ r1) r2
    cases this with | agg _ _ h => exact h

/-- whatever a call does here, it does in the logical heap -/
theorem qfn_sim {P : PEnv} (hG : ∀ T ti, P.E.ti T = some ti → tiGood ti = true) (hC : ClOk P) (N : Nat) : ∀ n, CSim (qfn P N n) (evFn P.E N n)
  | 0 => fun f args res μ' S vargs h => by simp [qfn] at h
  | n + 1 => by
    have ih := qfn_sim hG hC N n
    refine qfn_step hG hC (fun f args res μ' S vargs h hS hv => ?_) ih
    unfold callW at h
    cases hs : P.sig f with
    | none =>
      rw [hs] at h
      obtain ⟨vres, S', h1, h2, h3, h4, h5⟩ := ih f args res μ' S vargs h hS hv
      exact ⟨vres, S', h1, h2, h3, h4, h5, fun hh => absurd rfl hh⟩
    | some sg =>
      rw [hs] at h
      obtain ⟨vres, S', h1, h2, h3, h4, h5, h6⟩ := nC_sim (P := P) ih h hS hv
      exact ⟨vres, S', h1, h2, h3, h4, h5, fun _ => h6⟩
end Go.Lg.Pv
namespace Go.Lg.Pv
open Go Go.Lg
set_option linter.unusedVariables false
set_option linter.unnecessarySimpa false
abbrev RD := Option (List DV × PH)
abbrev RecD := List DV → PH → RD
/-- a table of flags -/
def flag (l : List (Nat × List Nat)) (f t : Nat) : Bool := match look l f with | some l => l.any (Nat.beq t) | none => false
section
variable {α : Type}
def u0 (l : List DV) (k : Option α) : Option α := match l with | [] => k | _ :: _ => none
def u1 (l : List DV) (k : DV → Option α) : Option α := match l with | [] => none | x0 :: l => match l with | [] => k x0 | _ :: _ => none
def u2 (l : List DV) (k : DV → DV → Option α) : Option α := match l with | [] => none | x0 :: l => match l with | [] => none | x1 :: l => match l with | [] => k x0 x1 | _ :: _ => none
def u3 (l : List DV) (k : DV → DV → DV → Option α) : Option α := match l with | [] => none | x0 :: l => match l with | [] => none | x1 :: l => match l with | [] => none | x2 :: l => match l with | [] => k x0 x1 x2 | _ :: _ => none
def u4 (l : List DV) (k : DV → DV → DV → DV → Option α) : Option α := match l with | [] => none | x0 :: l => match l with | [] => none | x1 :: l => match l with | [] => none | x2 :: l => match l with | [] => none | x3 :: l => match l with | [] => k x0 x1 x2 x3 | _ :: _ => none
def u5 (l : List DV) (k : DV → DV → DV → DV → DV → Option α) : Option α := match l with | [] => none | x0 :: l => match l with | [] => none | x1 :: l => match l with | [] => none | x2 :: l => match l with | [] => none | x3 :: l => match l with | [] => none | x4 :: l => match l with | [] => k x0 x1 x2 x3 x4 | _ :: _ => none
def u6 (l : List DV) (k : DV → DV → DV → DV → DV → DV → Option α) : Option α := match l with | [] => none | x0 :: l => match l with | [] => none | x1 :: l => match l with | [] => none | x2 :: l => match l with | [] => none | x3 :: l => match l with | [] => none | x4 :: l => match l with | [] => none | x5 :: l => match l with | [] => k x0 x1 x2 x3 x4 x5 | _ :: _ => none
def u7 (l : List DV) (k : DV → DV → DV → DV → DV → DV → DV → Option α) : Option α := match l with | [] => none | x0 :: l => match l with | [] => none | x1 :: l => match l with | [] => none | x2 :: l => match l with | [] => none | x3 :: l => match l with | [] => none | x4 :: l => match l with | [] => none | x5 :: l => match l with | [] => none | x6 :: l => match l with | [] => k x0 x1 x2 x3 x4 x5 x6 | _ :: _ => none
def u8 (l : List DV) (k : DV → DV → DV → DV → DV → DV → DV → DV → Option α) : Option α := match l with | [] => none | x0 :: l => match l with | [] => none | x1 :: l => match l with | [] => none | x2 :: l => match l with | [] => none | x3 :: l => match l with | [] => none | x4 :: l => match l with | [] => none | x5 :: l => match l with | [] => none | x6 :: l => match l with | [] => none | x7 :: l => match l with | [] => k x0 x1 x2 x3 x4 x5 x6 x7 | _ :: _ => none
def u9 (l : List DV) (k : DV → DV → DV → DV → DV → DV → DV → DV → DV → Option α) : Option α := match l with | [] => none | x0 :: l => match l with | [] => none | x1 :: l => match l with | [] => none | x2 :: l => match l with | [] => none | x3 :: l => match l with | [] => none | x4 :: l => match l with | [] => none | x5 :: l => match l with | [] => none | x6 :: l => match l with | [] => none | x7 :: l => match l with | [] => none | x8 :: l => match l with | [] => k x0 x1 x2 x3 x4 x5 x6 x7 x8 | _ :: _ => none
def u10 (l : List DV) (k : DV → DV → DV → DV → DV → DV → DV → DV → DV → DV → Option α) : Option α := match l with | [] => none | x0 :: l => match l with | [] => none | x1 :: l => match l with | [] => none | x2 :: l => match l with | [] => none | x3 :: l => match l with | [] => none | x4 :: l => match l with | [] => none | x5 :: l => match l with | [] => none | x6 :: l => match l with | [] => none | x7 :: l => match l with | [] => none | x8 :: l => match l with | [] => none | x9 :: l => match l with | [] => k x0 x1 x2 x3 x4 x5 x6 x7 x8 x9 | _ :: _ => none
def u11 (l : List DV) (k : DV → DV → DV → DV → DV → DV → DV → DV → DV → DV → DV → Option α) : Option α := match l with | [] => none | x0 :: l => match l with | [] => none | x1 :: l => match l with | [] => none | x2 :: l => match l with | [] => none | x3 :: l => match l with | [] => none | x4 :: l => match l with | [] => none | x5 :: l => match l with | [] => none | x6 :: l => match l with | [] => none | x7 :: l => match l with | [] => none | x8 :: l => match l with | [] => none | x9 :: l => match l with | [] => none | x10 :: l => match l with | [] => k x0 x1 x2 x3 x4 x5 x6 x7 x8 x9 x10 | _ :: _ => none
def u12 (l : List DV) (k : DV → DV → DV → DV → DV → DV → DV → DV → DV → DV → DV → DV → Option α) : Option α := match l with | [] => none | x0 :: l => match l with | [] => none | x1 :: l => match l with | [] => none | x2 :: l => match l with | [] => none | x3 :: l => match l with | [] => none | x4 :: l => match l with | [] => none | x5 :: l => match l with | [] => none | x6 :: l => match l with | [] => none | x7 :: l => match l with | [] => none | x8 :: l => match l with | [] => none | x9 :: l => match l with | [] => none | x10 :: l => match l with | [] => none | x11 :: l => match l with | [] => k x0 x1 x2 x3 x4 x5 x6 x7 x8 x9 x10 x11 | _ :: _ => none
def u13 (l : List DV) (k : DV → DV → DV → DV → DV → DV → DV → DV → DV → DV → DV → DV → DV → Option α) : Option α := match l with | [] => none | x0 :: l => match l with | [] => none | x1 :: l => match l with | [] => none | x2 :: l => match l with | [] => none | x3 :: l => match l with | [] => none | x4 :: l => match l with | [] => none | x5 :: l => match l with | [] => none | x6 :: l => match l with | [] => none | x7 :: l => match l with | [] => none | x8 :: l => match l with | [] => none | x9 :: l => match l with | [] => none | x10 :: l => match l with | [] => none | x11 :: l => match l with | [] => none | x12 :: l => match l with | [] => k x0 x1 x2 x3 x4 x5 x6 x7 x8 x9 x10 x11 x12 | _ :: _ => none
def u14 (l : List DV) (k : DV → DV → DV → DV → DV → DV → DV → DV → DV → DV → DV → DV → DV → DV → Option α) : Option α := match l with | [] => none | x0 :: l => match l with | [] => none | x1 :: l => match l with | [] => none | x2 :: l => match l with | [] => none | x3 :: l => match l with | [] => none | x4 :: l => match l with | [] => none | x5 :: l => match l with | [] => none | x6 :: l => match l with | [] => none | x7 :: l => match l with | [] => none | x8 :: l => match l with | [] => none | x9 :: l => match l with | [] => none | x10 :: l => match l with | [] => none | x11 :: l => match l with | [] => none | x12 :: l => match l with | [] => none | x13 :: l => match l with | [] => k x0 x1 x2 x3 x4 x5 x6 x7 x8 x9 x10 x11 x12 x13 | _ :: _ => none
def u15 (l : List DV) (k : DV → DV → DV → DV → DV → DV → DV → DV → DV → DV → DV → DV → DV → DV → DV → Option α) : Option α := match l with | [] => none | x0 :: l => match l with | [] => none | x1 :: l => match l with | [] => none | x2 :: l => match l with | [] => none | x3 :: l => match l with | [] => none | x4 :: l => match l with | [] => none | x5 :: l => match l with | [] => none | x6 :: l => match l with | [] => none | x7 :: l => match l with | [] => none | x8 :: l => match l with | [] => none | x9 :: l => match l with | [] => none | x10 :: l => match l with | [] => none | x11 :: l => match l with | [] => none | x12 :: l => match l with | [] => none | x13 :: l => match l with | [] => none | x14 :: l => match l with | [] => k x0 x1 x2 x3 x4 x5 x6 x7 x8 x9 x10 x11 x12 x13 x14 | _ :: _ => none
def u16 (l : List DV) (k : DV → DV → DV → DV → DV → DV → DV → DV → DV → DV → DV → DV → DV → DV → DV → DV → Option α) : Option α := match l with | [] => none | x0 :: l => match l with | [] => none | x1 :: l => match l with | [] => none | x2 :: l => match l with | [] => none | x3 :: l => match l with | [] => none | x4 :: l => match l with | [] => none | x5 :: l => match l with | [] => none | x6 :: l => match l with | [] => none | x7 :: l => match l with | [] => none | x8 :: l => match l with | [] => none | x9 :: l => match l with | [] => none | x10 :: l => match l with | [] => none | x11 :: l => match l with | [] => none | x12 :: l => match l with | [] => none | x13 :: l => match l with | [] => none | x14 :: l => match l with | [] => none | x15 :: l => match l with | [] => k x0 x1 x2 x3 x4 x5 x6 x7 x8 x9 x10 x11 x12 x13 x14 x15 | _ :: _ => none
def u17 (l : List DV) (k : DV → DV → DV → DV → DV → DV → DV → DV → DV → DV → DV → DV → DV → DV → DV → DV → DV → Option α) : Option α := match l with | [] => none | x0 :: l => match l with | [] => none | x1 :: l => match l with | [] => none | x2 :: l => match l with | [] => none | x3 :: l => match l with | [] => none | x4 :: l => match l with | [] => none | x5 :: l => match l with | [] => none | x6 :: l => match l with | [] => none | x7 :: l => match l with | [] => none | x8 :: l => match l with | [] => none | x9 :: l => match l with | [] => none | x10 :: l => match l with | [] => none | x11 :: l => match l with | [] => none | x12 :: l => match l with | [] => none | x13 :: l => match l with | [] => none | x14 :: l => match l with | [] => none | x15 :: l => match l with | [] => none | x16 :: l => match l with | [] => k x0 x1 x2 x3 x4 x5 x6 x7 x8 x9 x10 x11 x12 x13 x14 x15 x16 | _ :: _ => none
def u18 (l : List DV) (k : DV → DV → DV → DV → DV → DV → DV → DV → DV → DV → DV → DV → DV → DV → DV → DV → DV → DV → Option α) : Option α := match l with | [] => none | x0 :: l => match l with | [] => none | x1 :: l => match l with | [] => none | x2 :: l => match l with | [] => none | x3 :: l => match l with | [] => none | x4 :: l => match l with | [] => none | x5 :: l => match l with | [] => none | x6 :: l => match l with | [] => none | x7 :: l => match l with | [] => none | x8 :: l => match l with | [] => none | x9 :: l => match l with | [] => none | x10 :: l => match l with | [] => none | x11 :: l => match l with | [] => none | x12 :: l => match l with | [] => none | x13 :: l => match l with | [] => none | x14 :: l => match l with | [] => none | x15 :: l => match l with | [] => none | x16 :: l => match l with | [] => none | x17 :: l => match l with | [] => k x0 x1 x2 x3 x4 x5 x6 x7 x8 x9 x10 x11 x12 x13 x14 x15 x16 x17 | _ :: _ => none
def u19 (l : List DV) (k : DV → DV → DV → DV → DV → DV → DV → DV → DV → DV → DV → DV → DV → DV → DV → DV → DV → DV → DV → Option α) : Option α := match l with | [] => none | x0 :: l => match l with | [] => none | x1 :: l => match l with | [] => none | x2 :: l => match l with | [] => none | x3 :: l => match l with | [] => none | x4 :: l => match l with | [] => none | x5 :: l => match l with | [] => none | x6 :: l => match l with | [] => none | x7 :: l => match l with | [] => none | x8 :: l => match l with | [] => none | x9 :: l => match l with | [] => none | x10 :: l => match l with | [] => none | x11 :: l => match l with | [] => none | x12 :: l => match l with | [] => none | x13 :: l => match l with | [] => none | x14 :: l => match l with | [] => none | x15 :: l => match l with | [] => none | x16 :: l => match l with | [] => none | x17 :: l => match l with | [] => none | x18 :: l => match l with | [] => k x0 x1 x2 x3 x4 x5 x6 x7 x8 x9 x10 x11 x12 x13 x14 x15 x16 x17 x18 | _ :: _ => none
def u20 (l : List DV) (k : DV → DV → DV → DV → DV → DV → DV → DV → DV → DV → DV → DV → DV → DV → DV → DV → DV → DV → DV → DV → Option α) : Option α := match l with | [] => none | x0 :: l => match l with | [] => none | x1 :: l => match l with | [] => none | x2 :: l => match l with | [] => none | x3 :: l => match l with | [] => none | x4 :: l => match l with | [] => none | x5 :: l => match l with | [] => none | x6 :: l => match l with | [] => none | x7 :: l => match l with | [] => none | x8 :: l => match l with | [] => none | x9 :: l => match l with | [] => none | x10 :: l => match l with | [] => none | x11 :: l => match l with | [] => none | x12 :: l => match l with | [] => none | x13 :: l => match l with | [] => none | x14 :: l => match l with | [] => none | x15 :: l => match l with | [] => none | x16 :: l => match l with | [] => none | x17 :: l => match l with | [] => none | x18 :: l => match l with | [] => none | x19 :: l => match l with | [] => k x0 x1 x2 x3 x4 x5 x6 x7 x8 x9 x10 x11 x12 x13 x14 x15 x16 x17 x18 x19 | _ :: _ => none
def u21 (l : List DV) (k : DV → DV → DV → DV → DV → DV → DV → DV → DV → DV → DV → DV → DV → DV → DV → DV → DV → DV → DV → DV → DV → Option α) : Option α := match l with | [] => none | x0 :: l => match l with | [] => none | x1 :: l => match l with | [] => none | x2 :: l => match l with | [] => none | x3 :: l => match l with | [] => none | x4 :: l => match l with | [] => none | x5 :: l => match l with | [] => none | x6 :: l => match l with | [] => none | x7 :: l => match l with | [] => none | x8 :: l => match l with | [] => none | x9 :: l => match l with | [] => none | x10 :: l => match l with | [] => none | x11 :: l => match l with | [] => none | x12 :: l => match l with | [] => none | x13 :: l => match l with | [] => none | x14 :: l => match l with | [] => none | x15 :: l => match l with | [] => none | x16 :: l => match l with | [] => none | x17 :: l => match l with | [] => none | x18 :: l => match l with | [] => none | x19 :: l => match l with | [] => none | x20 :: l => match l with | [] => k x0 x1 x2 x3 x4 x5 x6 x7 x8 x9 x10 x11 x12 x13 x14 x15 x16 x17 x18 x19 x20 | _ :: _ => none
def u22 (l : List DV) (k : DV → DV → DV → DV → DV → DV → DV → DV → DV → DV → DV → DV → DV → DV → DV → DV → DV → DV → DV → DV → DV → DV → Option α) : Option α := match l with | [] => none | x0 :: l => match l with | [] => none | x1 :: l => match l with | [] => none | x2 :: l => match l with | [] => none | x3 :: l => match l with | [] => none | x4 :: l => match l with | [] => none | x5 :: l => match l with | [] => none | x6 :: l => match l with | [] => none | x7 :: l => match l with | [] => none | x8 :: l => match l with | [] => none | x9 :: l => match l with | [] => none | x10 :: l => match l with | [] => none | x11 :: l => match l with | [] => none | x12 :: l => match l with | [] => none | x13 :: l => match l with | [] => none | x14 :: l => match l with | [] => none | x15 :: l => match l with | [] => none | x16 :: l => match l with | [] => none | x17 :: l => match l with | [] => none | x18 :: l => match l with | [] => none | x19 :: l => match l with | [] => none | x20 :: l => match l with | [] => none | x21 :: l => match l with | [] => k x0 x1 x2 x3 x4 x5 x6 x7 x8 x9 x10 x11 x12 x13 x14 x15 x16 x17 x18 x19 x20 x21 | _ :: _ => none
def u23 (l : List DV) (k : DV → DV → DV → DV → DV → DV → DV → DV → DV → DV → DV → DV → DV → DV → DV → DV → DV → DV → DV → DV → DV → DV → DV → Option α) : Option α := match l with | [] => none | x0 :: l => match l with | [] => none | x1 :: l => match l with | [] => none | x2 :: l => match l with | [] => none | x3 :: l => match l with | [] => none | x4 :: l => match l with | [] => none | x5 :: l => match l with | [] => none | x6 :: l => match l with | [] => none | x7 :: l => match l with | [] => none | x8 :: l => match l with | [] => none | x9 :: l => match l with | [] => none | x10 :: l => match l with | [] => none | x11 :: l => match l with | [] => none | x12 :: l => match l with | [] => none | x13 :: l => match l with | [] => none | x14 :: l => match l with | [] => none | x15 :: l => match l with | [] => none | x16 :: l => match l with | [] => none | x17 :: l => match l with | [] => none | x18 :: l => match l with | [] => none | x19 :: l => match l with | [] => none | x20 :: l => match l with | [] => none | x21 :: l => match l with | [] => none | x22 :: l => match l with | [] => k x0 x1 x2 x3 x4 x5 x6 x7 x8 x9 x10 x11 x12 x13 x14 x15 x16 x17 x18 x19 x20 x21 x22 | _ :: _ => none
def u24 (l : List DV) (k : DV → DV → DV → DV → DV → DV → DV → DV → DV → DV → DV → DV → DV → DV → DV → DV → DV → DV → DV → DV → DV → DV → DV → DV → Option α) : Option α := match l with | [] => none | x0 :: l => match l with | [] => none | x1 :: l => match l with | [] => none | x2 :: l => match l with | [] => none | x3 :: l => match l with | [] => none | x4 :: l => match l with | [] => none | x5 :: l => match l with | [] => none | x6 :: l => match l with | [] => none | x7 :: l => match l with | [] => none | x8 :: l => match l with | [] => none | x9 :: l => match l with | [] => none | x10 :: l => match l with | [] => none | x11 :: l => match l with | [] => none | x12 :: l => match l with | [] => none | x13 :: l => match l with | [] => none | x14 :: l => match l with | [] => none | x15 :: l => match l with | [] => none | x16 :: l => match l with | [] => none | x17 :: l => match l with | [] => none | x18 :: l => match l with | [] => none | x19 :: l => match l with | [] => none | x20 :: l => match l with | [] => none | x21 :: l => match l with | [] => none | x22 :: l => match l with | [] => none | x23 :: l => match l with | [] => k x0 x1 x2 x3 x4 x5 x6 x7 x8 x9 x10 x11 x12 x13 x14 x15 x16 x17 x18 x19 x20 x21 x22 x23 | _ :: _ => none
def agl (v : DV) (k : List DV → Option α) : Option α := match v with | .agg cs => k cs | _ => none
abbrev a1 (v : DV) (k : DV → Option α) : Option α := agl v fun l => u1 l k
abbrev a2 (v : DV) (k : DV → DV → Option α) : Option α := agl v fun l => u2 l k
abbrev a3 (v : DV) (k : DV → DV → DV → Option α) : Option α := agl v fun l => u3 l k
abbrev a4 (v : DV) (k : DV → DV → DV → DV → Option α) : Option α := agl v fun l => u4 l k
abbrev a5 (v : DV) (k : DV → DV → DV → DV → DV → Option α) : Option α := agl v fun l => u5 l k
abbrev a6 (v : DV) (k : DV → DV → DV → DV → DV → DV → Option α) : Option α := agl v fun l => u6 l k
abbrev a7 (v : DV) (k : DV → DV → DV → DV → DV → DV → DV → Option α) : Option α := agl v fun l => u7 l k
abbrev a8 (v : DV) (k : DV → DV → DV → DV → DV → DV → DV → DV → Option α) : Option α := agl v fun l => u8 l k
abbrev a9 (v : DV) (k : DV → DV → DV → DV → DV → DV → DV → DV → DV → Option α) : Option α := agl v fun l => u9 l k
abbrev a10 (v : DV) (k : DV → DV → DV → DV → DV → DV → DV → DV → DV → DV → Option α) : Option α := agl v fun l => u10 l k
abbrev a11 (v : DV) (k : DV → DV → DV → DV → DV → DV → DV → DV → DV → DV → DV → Option α) : Option α := agl v fun l => u11 l k
abbrev a12 (v : DV) (k : DV → DV → DV → DV → DV → DV → DV → DV → DV → DV → DV → DV → Option α) : Option α := agl v fun l => u12 l k
abbrev c0 (x : RD) (k : PH → Option α) : Option α := x.bind fun r => u0 r.1 (k r.2)
abbrev c1 (x : RD) (k : DV → PH → Option α) : Option α := x.bind fun r => u1 r.1 fun x0 => k x0 r.2
abbrev c2 (x : RD) (k : DV → DV → PH → Option α) : Option α := x.bind fun r => u2 r.1 fun x0 x1 => k x0 x1 r.2
abbrev c3 (x : RD) (k : DV → DV → DV → PH → Option α) : Option α := x.bind fun r => u3 r.1 fun x0 x1 x2 => k x0 x1 x2 r.2
abbrev c4 (x : RD) (k : DV → DV → DV → DV → PH → Option α) : Option α := x.bind fun r => u4 r.1 fun x0 x1 x2 x3 => k x0 x1 x2 x3 r.2
abbrev c5 (x : RD) (k : DV → DV → DV → DV → DV → PH → Option α) : Option α := x.bind fun r => u5 r.1 fun x0 x1 x2 x3 x4 => k x0 x1 x2 x3 x4 r.2
end
abbrev cq (s : Sig) (core : List DV → PH → RD) (args : List DV) (μ : PH) : RD := nC s.ps s.fresh (run1 s core) args μ
section
variable {α : Type}
@[simp] theorem u0_list (k : Option α) : u0 [] k = k := rfl
@[simp] theorem u1_list (x0 : DV) (k : DV → Option α) : u1 [x0] k = k x0 := rfl
@[simp] theorem u2_list (x0 : DV) (x1 : DV) (k : DV → DV → Option α) : u2 [x0, x1] k = k x0 x1 := rfl
@[simp] theorem u3_list (x0 : DV) (x1 : DV) (x2 : DV) (k : DV → DV → DV → Option α) : u3 [x0, x1, x2] k = k x0 x1 x2 := rfl
@[simp] theorem u4_list (x0 : DV) (x1 : DV) (x2 : DV) (x3 : DV) (k : DV → DV → DV → DV → Option α) : u4 [x0, x1, x2, x3] k = k x0 x1 x2 x3 := rfl
@[simp] theorem u5_list (x0 : DV) (x1 : DV) (x2 : DV) (x3 : DV) (x4 : DV) (k : DV → DV → DV → DV → DV → Option α) : u5 [x0, x1, x2, x3, x4] k = k x0 x1 x2 x3 x4 := rfl
@[simp] theorem u6_list (x0 : DV) (x1 : DV) (x2 : DV) (x3 : DV) (x4 : DV) (x5 : DV) (k : DV → DV → DV → DV → DV → DV → Option α) : u6 [x0, x1, x2, x3, x4, x5] k = k x0 x1 x2 x3 x4 x5 := rfl
@[simp] theorem u7_list (x0 : DV) (x1 : DV) (x2 : DV) (x3 : DV) (x4 : DV) (x5 : DV) (x6 : DV) (k : DV → DV → DV → DV → DV → DV → DV → Option α) : u7 [x0, x1, x2, x3, x4, x5, x6] k = k x0 x1 x2 x3 x4 x5 x6 := rfl
@[simp] theorem u8_list (x0 : DV) (x1 : DV) (x2 : DV) (x3 : DV) (x4 : DV) (x5 : DV) (x6 : DV) (x7 : DV) (k : DV → DV → DV → DV → DV → DV → DV → DV → Option α) : u8 [x0, x1, x2, x3, x4, x5, x6, x7] k = k x0 x1 x2 x3 x4 x5 x6 x7 := rfl
@[simp] theorem u9_list (x0 : DV) (x1 : DV) (x2 : DV) (x3 : DV) (x4 : DV) (x5 : DV) (x6 : DV) (x7 : DV) (x8 : DV) (k : DV → DV → DV → DV → DV → DV → DV → DV → DV → Option α) : u9 [x0, x1, x2, x3, x4, x5, x6, x7, x8] k = k x0 x1 x2 x3 x4 x5 x6 x7 x8 := rfl
@[simp] theorem u10_list (x0 : DV) (x1 : DV) (x2 : DV) (x3 : DV) (x4 : DV) (x5 : DV) (x6 : DV) (x7 : DV) (x8 : DV) (x9 : DV) (k : DV → DV → DV → DV → DV → DV → DV → DV → DV → DV → Option α) : u10 [x0, x1, x2, x3, x4, x5, x6, x7, x8, x9] k = k x0 x1 x2 x3 x4 x5 x6 x7 x8 x9 := rfl
@[simp] theorem u11_list (x0 : DV) (x1 : DV) (x2 : DV) (x3 : DV) (x4 : DV) (x5 : DV) (x6 : DV) (x7 : DV) (x8 : DV) (x9 : DV) (x10 : DV) (k : DV → DV → DV → DV → DV → DV → DV → DV → DV → DV → DV → Option α) : u11 [x0, x1, x2, x3, x4, x5, x6, x7, x8, x9, x10] k = k x0 x1 x2 x3 x4 x5 x6 x7 x8 x9 x10 := rfl
@[simp] theorem u12_list (x0 : DV) (x1 : DV) (x2 : DV) (x3 : DV) (x4 : DV) (x5 : DV) (x6 : DV) (x7 : DV) (x8 : DV) (x9 : DV) (x10 : DV) (x11 : DV) (k : DV → DV → DV → DV → DV → DV → DV → DV → DV → DV → DV → DV → Option α) : u12 [x0, x1, x2, x3, x4, x5, x6, x7, x8, x9, x10, x11] k = k x0 x1 x2 x3 x4 x5 x6 x7 x8 x9 x10 x11 := rfl
@[simp] theorem u13_list (x0 : DV) (x1 : DV) (x2 : DV) (x3 : DV) (x4 : DV) (x5 : DV) (x6 : DV) (x7 : DV) (x8 : DV) (x9 : DV) (x10 : DV) (x11 : DV) (x12 : DV) (k : DV → DV → DV → DV → DV → DV → DV → DV → DV → DV → DV → DV → DV → Option α) : u13 [x0, x1, x2, x3, x4, x5, x6, x7, x8, x9, x10, x11, x12] k = k x0 x1 x2 x3 x4 x5 x6 x7 x8 x9 x10 x11 x12 := rfl
@[simp] theorem u14_list (x0 : DV) (x1 : DV) (x2 : DV) (x3 : DV) (x4 : DV) (x5 : DV) (x6 : DV) (x7 : DV) (x8 : DV) (x9 : DV) (x10 : DV) (x11 : DV) (x12 : DV) (x13 : DV) (k : DV → DV → DV → DV → DV → DV → DV → DV → DV → DV → DV → DV → DV → DV → Option α) : u14 [x0, x1, x2, x3, x4, x5, x6, x7, x8, x9, x10, x11, x12, x13] k = k x0 x1 x2 x3 x4 x5 x6 x7 x8 x9 x10 x11 x12 x13 := rfl
@[simp] theorem u15_list (x0 : DV) (x1 : DV) (x2 : DV) (x3 : DV) (x4 : DV) (x5 : DV) (x6 : DV) (x7 : DV) (x8 : DV) (x9 : DV) (x10 : DV) (x11 : DV) (x12 : DV) (x13 : DV) (x14 : DV) (k : DV → DV → DV → DV → DV → DV → DV → DV → DV → DV → DV → DV → DV → DV → DV → Option α) : u15 [x0, x1, x2, x3, x4, x5, x6, x7, x8, x9, x10, x11, x12, x13, x14] k = k x0 x1 x2 x3 x4 x5 x6 x7 x8 x9 x10 x11 x12 x13 x14 := rfl
@[simp] theorem u16_list (x0 : DV) (x1 : DV) (x2 : DV) (x3 : DV) (x4 : DV) (x5 : DV) (x6 : DV) (x7 : DV) (x8 : DV) (x9 : DV) (x10 : DV) (x11 : DV) (x12 : DV) (x13 : DV) (x14 : DV) (x15 : DV) (k : DV → DV → DV → DV → DV → DV → DV → DV → DV → DV → DV → DV → DV → DV → DV → DV → Option α) : u16 [x0, x1, x2, x3, x4, x5, x6, x7, x8, x9, x10, x11, x12, x13, x14, x15] k = k x0 x1 x2 x3 x4 x5 x6 x7 x8 x9 x10 x11 x12 x13 x14 x15 := rfl
@[simp] theorem u17_list (x0 : DV) (x1 : DV) (x2 : DV) (x3 : DV) (x4 : DV) (x5 : DV) (x6 : DV) (x7 : DV) (x8 : DV) (x9 : DV) (x10 : DV) (x11 : DV) (x12 : DV) (x13 : DV) (x14 : DV) (x15 : DV) (x16 : DV) (k : DV → DV → DV → DV → DV → DV → DV → DV → DV → DV → DV → DV → DV → DV → DV → DV → DV → Option α) : u17 [x0, x1, x2, x3, x4, x5, x6, x7, x8, x9, x10, x11, x12, x13, x14, x15, x16] k = k x0 x1 x2 x3 x4 x5 x6 x7 x8 x9 x10 x11 x12 x13 x14 x15 x16 := rfl
@[simp] theorem u18_list (x0 : DV) (x1 : DV) (x2 : DV) (x3 : DV) (x4 : DV) (x5 : DV) (x6 : DV) (x7 : DV) (x8 : DV) (x9 : DV) (x10 : DV) (x11 : DV) (x12 : DV) (x13 : DV) (x14 : DV) (x15 : DV) (x16 : DV) (x17 : DV) (k : DV → DV → DV → DV → DV → DV → DV → DV → DV → DV → DV → DV → DV → DV → DV → DV → DV → DV → Option α) : u18 [x0, x1, x2, x3, x4, x5, x6, x7, x8, x9, x10, x11, x12, x13, x14, x15, x16, x17] k = k x0 x1 x2 x3 x4 x5 x6 x7 x8 x9 x10 x11 x12 x13 x14 x15 x16 x17 := rfl
@[simp] theorem u19_list (x0 : DV) (x1 : DV) (x2 : DV) (x3 : DV) (x4 : DV) (x5 : DV) (x6 : DV) (x7 : DV) (x8 : DV) (x9 : DV) (x10 : DV) (x11 : DV) (x12 : DV) (x13 : DV) (x14 : DV) (x15 : DV) (x16 : DV) (x17 : DV) (x18 : DV) (k : DV → DV → DV → DV → DV → DV → DV → DV → DV → DV → DV → DV → DV → DV → DV → DV → DV → DV → DV → Option α) : u19 [x0, x1, x2, x3, x4, x5, x6, x7, x8, x9, x10, x11, x12, x13, x14, x15, x16, x17, x18] k = k x0 x1 x2 x3 x4 x5 x6 x7 x8 x9 x10 x11 x12 x13 x14 x15 x16 x17 x18 := rfl
@[simp] theorem u20_list (x0 : DV) (x1 : DV) (x2 : DV) (x3 : DV) (x4 : DV) (x5 : DV) (x6 : DV) (x7 : DV) (x8 : DV) (x9 : DV) (x10 : DV) (x11 : DV) (x12 : DV) (x13 : DV) (x14 : DV) (x15 : DV) (x16 : DV) (x17 : DV) (x18 : DV) (x19 : DV) (k : DV → DV → DV → DV → DV → DV → DV → DV → DV → DV → DV → DV → DV → DV → DV → DV → DV → DV → DV → DV → Option α) : u20 [x0, x1, x2, x3, x4, x5, x6, x7, x8, x9, x10, x11, x12, x13, x14, x15, x16, x17, x18, x19] k = k x0 x1 x2 x3 x4 x5 x6 x7 x8 x9 x10 x11 x12 x13 x14 x15 x16 x17 x18 x19 := rfl
@[simp] theorem u21_list (x0 : DV) (x1 : DV) (x2 : DV) (x3 : DV) (x4 : DV) (x5 : DV) (x6 : DV) (x7 : DV) (x8 : DV) (x9 : DV) (x10 : DV) (x11 : DV) (x12 : DV) (x13 : DV) (x14 : DV) (x15 : DV) (x16 : DV) (x17 : DV) (x18 : DV) (x19 : DV) (x20 : DV) (k : DV → DV → DV → DV → DV → DV → DV → DV → DV → DV → DV → DV → DV → DV → DV → DV → DV → DV → DV → DV → DV → Option α) : u21 [x0, x1, x2, x3, x4, x5, x6, x7, x8, x9, x10, x11, x12, x13, x14, x15, x16, x17, x18, x19, x20] k = k x0 x1 x2 x3 x4 x5 x6 x7 x8 x9 x10 x11 x12 x13 x14 x15 x16 x17 x18 x19 x20 := rfl
@[simp] theorem u22_list (x0 : DV) (x1 : DV) (x2 : DV) (x3 : DV) (x4 : DV) (x5 : DV) (x6 : DV) (x7 : DV) (x8 : DV) (x9 : DV) (x10 : DV) (x11 : DV) (x12 : DV) (x13 : DV) (x14 : DV) (x15 : DV) (x16 : DV) (x17 : DV) (x18 : DV) (x19 : DV) (x20 : DV) (x21 : DV) (k : DV → DV → DV → DV → DV → DV → DV → DV → DV → DV → DV → DV → DV → DV → DV → DV → DV → DV → DV → DV → DV → DV → Option α) : u22 [x0, x1, x2, x3, x4, x5, x6, x7, x8, x9, x10, x11, x12, x13, x14, x15, x16, x17, x18, x19, x20, x21] k = k x0 x1 x2 x3 x4 x5 x6 x7 x8 x9 x10 x11 x12 x13 x14 x15 x16 x17 x18 x19 x20 x21 := rfl
@[simp] theorem u23_list (x0 : DV) (x1 : DV) (x2 : DV) (x3 : DV) (x4 : DV) (x5 : DV) (x6 : DV) (x7 : DV) (x8 : DV) (x9 : DV) (x10 : DV) (x11 : DV) (x12 : DV) (x13 : DV) (x14 : DV) (x15 : DV) (x16 : DV) (x17 : DV) (x18 : DV) (x19 : DV) (x20 : DV) (x21 : DV) (x22 : DV) (k : DV → DV → DV → DV → DV → DV → DV → DV → DV → DV → DV → DV → DV → DV → DV → DV → DV → DV → DV → DV → DV → DV → DV → Option α) : u23 [x0, x1, x2, x3, x4, x5, x6, x7, x8, x9, x10, x11, x12, x13, x14, x15, x16, x17, x18, x19, x20, x21, x22] k = k x0 x1 x2 x3 x4 x5 x6 x7 x8 x9 x10 x11 x12 x13 x14 x15 x16 x17 x18 x19 x20 x21 x22 := rfl
@[simp] theorem u24_list (x0 : DV) (x1 : DV) (x2 : DV) (x3 : DV) (x4 : DV) (x5 : DV) (x6 : DV) (x7 : DV) (x8 : DV) (x9 : DV) (x10 : DV) (x11 : DV) (x12 : DV) (x13 : DV) (x14 : DV) (x15 : DV) (x16 : DV) (x17 : DV) (x18 : DV) (x19 : DV) (x20 : DV) (x21 : DV) (x22 : DV) (x23 : DV) (k : DV → DV → DV → DV → DV → DV → DV → DV → DV → DV → DV → DV → DV → DV → DV → DV → DV → DV → DV → DV → DV → DV → DV → DV → Option α) : u24 [x0, x1, x2, x3, x4, x5, x6, x7, x8, x9, x10, x11, x12, x13, x14, x15, x16, x17, x18, x19, x20, x21, x22, x23] k = k x0 x1 x2 x3 x4 x5 x6 x7 x8 x9 x10 x11 x12 x13 x14 x15 x16 x17 x18 x19 x20 x21 x22 x23 := rfl
@[simp] theorem a1_agg (x0 : DV) (k : DV → Option α) : a1 (.agg [x0]) k = k x0 := rfl
@[simp] theorem a2_agg (x0 : DV) (x1 : DV) (k : DV → DV → Option α) : a2 (.agg [x0, x1]) k = k x0 x1 := rfl
@[simp] theorem a3_agg (x0 : DV) (x1 : DV) (x2 : DV) (k : DV → DV → DV → Option α) : a3 (.agg [x0, x1, x2]) k = k x0 x1 x2 := rfl
@[simp] theorem a4_agg (x0 : DV) (x1 : DV) (x2 : DV) (x3 : DV) (k : DV → DV → DV → DV → Option α) : a4 (.agg [x0, x1, x2, x3]) k = k x0 x1 x2 x3 := rfl
@[simp] theorem a5_agg (x0 : DV) (x1 : DV) (x2 : DV) (x3 : DV) (x4 : DV) (k : DV → DV → DV → DV → DV → Option α) : a5 (.agg [x0, x1, x2, x3, x4]) k = k x0 x1 x2 x3 x4 := rfl
@[simp] theorem a6_agg (x0 : DV) (x1 : DV) (x2 : DV) (x3 : DV) (x4 : DV) (x5 : DV) (k : DV → DV → DV → DV → DV → DV → Option α) : a6 (.agg [x0, x1, x2, x3, x4, x5]) k = k x0 x1 x2 x3 x4 x5 := rfl
@[simp] theorem a7_agg (x0 : DV) (x1 : DV) (x2 : DV) (x3 : DV) (x4 : DV) (x5 : DV) (x6 : DV) (k : DV → DV → DV → DV → DV → DV → DV → Option α) : a7 (.agg [x0, x1, x2, x3, x4, x5, x6]) k = k x0 x1 x2 x3 x4 x5 x6 := rfl
@[simp] theorem a8_agg (x0 : DV) (x1 : DV) (x2 : DV) (x3 : DV) (x4 : DV) (x5 : DV) (x6 : DV) (x7 : DV) (k : DV → DV → DV → DV → DV → DV → DV → DV → Option α) : a8 (.agg [x0, x1, x2, x3, x4, x5, x6, x7]) k = k x0 x1 x2 x3 x4 x5 x6 x7 := rfl
@[simp] theorem a9_agg (x0 : DV) (x1 : DV) (x2 : DV) (x3 : DV) (x4 : DV) (x5 : DV) (x6 : DV) (x7 : DV) (x8 : DV) (k : DV → DV → DV → DV → DV → DV → DV → DV → DV → Option α) : a9 (.agg [x0, x1, x2, x3, x4, x5, x6, x7, x8]) k = k x0 x1 x2 x3 x4 x5 x6 x7 x8 := rfl
@[simp] theorem a10_agg (x0 : DV) (x1 : DV) (x2 : DV) (x3 : DV) (x4 : DV) (x5 : DV) (x6 : DV) (x7 : DV) (x8 : DV) (x9 : DV) (k : DV → DV → DV → DV → DV → DV → DV → DV → DV → DV → Option α) : a10 (.agg [x0, x1, x2, x3, x4, x5, x6, x7, x8, x9]) k = k x0 x1 x2 x3 x4 x5 x6 x7 x8 x9 := rfl
@[simp] theorem a11_agg (x0 : DV) (x1 : DV) (x2 : DV) (x3 : DV) (x4 : DV) (x5 : DV) (x6 : DV) (x7 : DV) (x8 : DV) (x9 : DV) (x10 : DV) (k : DV → DV → DV → DV → DV → DV → DV → DV → DV → DV → DV → Option α) : a11 (.agg [x0, x1, x2, x3, x4, x5, x6, x7, x8, x9, x10]) k = k x0 x1 x2 x3 x4 x5 x6 x7 x8 x9 x10 := rfl
@[simp] theorem a12_agg (x0 : DV) (x1 : DV) (x2 : DV) (x3 : DV) (x4 : DV) (x5 : DV) (x6 : DV) (x7 : DV) (x8 : DV) (x9 : DV) (x10 : DV) (x11 : DV) (k : DV → DV → DV → DV → DV → DV → DV → DV → DV → DV → DV → DV → Option α) : a12 (.agg [x0, x1, x2, x3, x4, x5, x6, x7, x8, x9, x10, x11]) k = k x0 x1 x2 x3 x4 x5 x6 x7 x8 x9 x10 x11 := rfl
@[simp] theorem c0_some (μ : PH) (k : PH → Option α) : c0 (some ([], μ)) k = k μ := rfl
@[simp] theorem c1_some (x0 : DV) (μ : PH) (k : DV → PH → Option α) : c1 (some ([x0], μ)) k = k x0 μ := rfl
@[simp] theorem c2_some (x0 : DV) (x1 : DV) (μ : PH) (k : DV → DV → PH → Option α) : c2 (some ([x0, x1], μ)) k = k x0 x1 μ := rfl
@[simp] theorem c3_some (x0 : DV) (x1 : DV) (x2 : DV) (μ : PH) (k : DV → DV → DV → PH → Option α) : c3 (some ([x0, x1, x2], μ)) k = k x0 x1 x2 μ := rfl
@[simp] theorem c4_some (x0 : DV) (x1 : DV) (x2 : DV) (x3 : DV) (μ : PH) (k : DV → DV → DV → DV → PH → Option α) : c4 (some ([x0, x1, x2, x3], μ)) k = k x0 x1 x2 x3 μ := rfl
@[simp] theorem c5_some (x0 : DV) (x1 : DV) (x2 : DV) (x3 : DV) (x4 : DV) (μ : PH) (k : DV → DV → DV → DV → DV → PH → Option α) : c5 (some ([x0, x1, x2, x3, x4], μ)) k = k x0 x1 x2 x3 x4 μ := rfl
end
end Go.Lg.Pv
namespace Go.Lg.Pv
open Go Go.Lg
set_option linter.unusedVariables false
set_option linter.unnecessarySimpa false
set_option linter.unusedSimpArgs false
section
variable {α : Type}
@[simp] theorem qB_bool (b : Bool) (k : Bool → Option α) : qB (.bool b) k = k b := rfl
@[simp] theorem cond_dec {p : Prop} [Decidable p] (a b : α) : cond (decide p) a b = if p then a else b := by by_cases h : p <;> simp [h]
@[simp] theorem qF_fn (f : Nat) (a b : List DV) (k : Nat → List DV → List DV → Option α) : qF (.fn f a b) k = k f a b := rfl
@[simp] theorem s1_int (k : IntKind) (n : Int) (q : Option α) : s1 (.int k n) q = q := rfl
@[simp] theorem s1_bool (b : Bool) (q : Option α) : s1 (.bool b) q = q := rfl
@[simp] theorem s1_str (s : ByteArray) (q : Option α) : s1 (.str s) q = q := rfl
@[simp] theorem s1_fn (f : Nat) (a b : List DV) (q : Option α) : s1 (.fn f a b) q = q := rfl
@[simp] theorem s1_own (i v o n c : Nat) (x : Bool) (q : Option α) : s1 (.own i v o n c x) q = q := rfl
@[simp] theorem s1_nil (q : Option α) : s1 (.nil) q = q := rfl
end
@[simp] theorem qLen_nil (μ : PH) : qLen μ .nil = some (.int .i64 0) := rfl
@[simp] theorem qLen_e0 (μ : PH) (z : Nat) : qLen μ (.e0 z) = some (.int .i64 0) := rfl
@[simp] theorem qLen_sl (μ : PH) (sh : List Sh) (l : List DV) : qLen μ (.sl sh l) = some (.int .i64 l.length) := rfl
theorem qLen_own {μ : PH} {id ver o n c : Nat} {x : Bool} {b : PB} (h : bk μ id ver = some b) : qLen μ (.own id ver o n c x) = some (.int .i64 n) := by simp [qLen, h]
@[simp] theorem qLs_str (s : ByteArray) : qLs (.str s) = some (.int .i64 s.size) := rfl
@[simp] theorem qFA_rp (μ : PH) (e : DV) (o off : Nat) : qFA μ (.rp e o) off = some (.rp e (o + off)) := rfl
theorem qFA_ptr {μ : PH} {id ver i o : Nat} {b : PB} (off : Nat) (h : bk μ id ver = some b) : qFA μ (.ptr id ver i o) off = some (.ptr id ver i (o + off)) := by simp [qFA, h]
theorem qIA_sl (μ : PH) {size : Nat} {sh : List Sh} {l : List DV} {k : IntKind} {i : Int} {j : Nat} {e : DV} (hi : i = (j : Int)) (hs : sh.length = size) (he : l[j]? = some e) : qIA μ size (.sl sh l) (.int k i) = some (.rp e 0) := by
  subst hi; simp [qIA, hs, he]
@[simp] theorem qIA_map {β : Type} (μ : PH) {size : Nat} {sh : List Sh} {f : β → DV} {l : List β} {k : IntKind} {i : Nat} (hs : sh.length = size) (hi : i < l.length) : qIA μ size (.sl sh (l.map f)) (.int k (i : Int)) = some (.rp (f l[i]) 0) :=
  qIA_sl μ rfl hs (by simp [hi])
theorem qIA_own {μ : PH} {size : Nat} {id ver o n c j : Nat} {x : Bool} {k : IntKind} {i : Int} {b : PB} (h : bk μ id ver = some b) (hi : i = (j : Int)) (hn : j < n) (hs : b.sh.length = size) : qIA μ size (.own id ver o n c x) (.int k i) = some (.ptr id ver (o + j) 0) := by
  subst hi; simp [qIA, h, hn, hs]
@[simp] theorem qLd_rp (μ : PH) (size : Nat) (agg : Bool) (e : DV) (off : Nat) : qLd μ size agg (.rp e off) = (getC (cellsD e) off size agg).map fun v => (v, μ) := rfl
theorem qLd_ptr {μ : PH} {size : Nat} {agg : Bool} {id ver i off : Nat} {b : PB} {e : DV} (h : bk μ id ver = some b) (he : b.el[i]? = some e) (hok : (((cellsD e).drop off).take size).all okC = true) :
    qLd μ size agg (.ptr id ver i off) = (getC (cellsD e) off size agg).map fun v => (v, μ) := by
  simp only [qLd, h, he, Option.bind_some, hok, or_true, if_true]
theorem qSt_ptr {μ : PH} {size : Nat} {id ver i off : Nat} {b : PB} {e v : DV} {cs : List DV} (h : bk μ id ver = some b) (he : b.el[i]? = some e) (h1 : (cellsD v).length = size) (h2 : off + size ≤ (cellsD e).length) (hp : putC b.op (b.sh.drop off) (cellsD v) = some cs) :
    qSt μ size (.ptr id ver i off) v = some (μ.set id { b with el := b.el.set i (mkE e (overD (cellsD e) off cs)) }) := by simp [qSt, h, he, h1, h2, hp]
@[simp] theorem getC_one (cs : List DV) (off : Nat) : getC cs off 1 false = cs[off]? := rfl
@[simp] theorem cellsD_agg (l : List DV) : cellsD (.agg l) = l := rfl
@[simp] theorem cellsD_str (s : ByteArray) : cellsD (.str s) = [.str s] := rfl
@[simp] theorem cellsD_int (k : IntKind) (n : Int) : cellsD (.int k n) = [.int k n] := rfl
@[simp] theorem cellsD_bool (b : Bool) : cellsD (.bool b) = [.bool b] := rfl
@[simp] theorem cellsD_sl (sh : List Sh) (l : List DV) : cellsD (.sl sh l) = [.sl sh l] := rfl
@[simp] theorem cellsD_own (i v o n c : Nat) (x : Bool) : cellsD (.own i v o n c x) = [.own i v o n c x] := rfl
@[simp] theorem qUn_not (b : Bool) : qUn .not (.bool b) = some (.bool !b) := rfl
theorem qBin_ii (μ : PH) (sh : Shape) (op : BinOp) (k k' : IntKind) (a b : Int) : qBin μ sh op (.int k a) (.int k' b) = (pBin sh op (.int k a) (.int k' b)).bind ofV := rfl
@[simp] theorem qBin_eql (μ : PH) (sh : Shape) (k : IntKind) (a b : Int) : qBin μ sh .eql (.int k a) (.int k b) = some (.bool (decide (a = b))) := by rw [qBin_ii, pBin_eql]; rfl
@[simp] theorem qBin_neq (μ : PH) (sh : Shape) (k : IntKind) (a b : Int) : qBin μ sh .neq (.int k a) (.int k b) = some (.bool (decide (a ≠ b))) := by rw [qBin_ii, pBin_neq]; rfl
@[simp] theorem qBin_lss (μ : PH) (sh : Shape) (k : IntKind) (a b : Int) : qBin μ sh .lss (.int k a) (.int k b) = some (.bool (decide (a < b))) := by rw [qBin_ii, pBin_lss]; rfl
@[simp] theorem qBin_leq (μ : PH) (sh : Shape) (k : IntKind) (a b : Int) : qBin μ sh .leq (.int k a) (.int k b) = some (.bool (decide (a ≤ b))) := by rw [qBin_ii, pBin_leq]; rfl
@[simp] theorem qBin_gtr (μ : PH) (sh : Shape) (k : IntKind) (a b : Int) : qBin μ sh .gtr (.int k a) (.int k b) = some (.bool (decide (a > b))) := by rw [qBin_ii, pBin_gtr]; rfl
@[simp] theorem qBin_geq (μ : PH) (sh : Shape) (k : IntKind) (a b : Int) : qBin μ sh .geq (.int k a) (.int k b) = some (.bool (decide (a ≥ b))) := by rw [qBin_ii, pBin_geq]; rfl
@[simp] theorem qBin_add (μ : PH) (sh : Shape) (k : IntKind) (a b : Int) : qBin μ sh .add (.int k a) (.int k b) = some (.int k (k.wrap (a + b))) := by rw [qBin_ii, pBin_add]; rfl
@[simp] theorem qBin_sub (μ : PH) (sh : Shape) (k : IntKind) (a b : Int) : qBin μ sh .sub (.int k a) (.int k b) = some (.int k (k.wrap (a - b))) := by rw [qBin_ii, pBin_sub]; rfl
@[simp] theorem qBin_mul (μ : PH) (sh : Shape) (k : IntKind) (a b : Int) : qBin μ sh .mul (.int k a) (.int k b) = some (.int k (k.wrap (a * b))) := by rw [qBin_ii, pBin_mul]; rfl
theorem qBin_rem (μ : PH) (sh : Shape) (k : IntKind) (a b : Int) (h : b ≠ 0) : qBin μ sh .rem (.int k a) (.int k b) = some (.int k (a.tmod b)) := by rw [qBin_ii, pBin_rem _ _ _ _ h]; rfl
theorem qBin_quo (μ : PH) (sh : Shape) (k : IntKind) (a b : Int) (h : b ≠ 0) : qBin μ sh .quo (.int k a) (.int k b) = some (.int k (k.wrap (a.tdiv b))) := by rw [qBin_ii, pBin_quo _ _ _ _ h]; rfl
theorem qBin_ss (μ : PH) (sh : Shape) (op : BinOp) (a b : ByteArray) : qBin μ sh op (.str a) (.str b) = (pBin sh op (.string a) (.string b)).bind ofV := rfl
@[simp] theorem qBin_seql (μ : PH) (sh : Shape) (a b : ByteArray) : qBin μ sh .eql (.str a) (.str b) = some (.bool (decide (a = b))) := by rw [qBin_ss, pBin_seql]; rfl
@[simp] theorem qBin_sneq (μ : PH) (sh : Shape) (a b : ByteArray) : qBin μ sh .neq (.str a) (.str b) = some (.bool (decide (a ≠ b))) := by rw [qBin_ss, pBin_sneq]; rfl
theorem qBin_sadd (μ : PH) (sh : Shape) (a b : ByteArray) (h : a.size + b.size ≤ 9223372036854775807) : qBin μ sh .add (.str a) (.str b) = some (.str (a ++ b)) := by rw [qBin_ss, pBin_sadd _ _ _ h]; rfl
@[simp] theorem qBin_beq (μ : PH) (a b : Bool) : qBin μ .bool .eql (.bool a) (.bool b) = some (.bool (a == b)) := rfl
@[simp] theorem qBin_bne (μ : PH) (a b : Bool) : qBin μ .bool .neq (.bool a) (.bool b) = some (.bool (!(a == b))) := rfl
@[simp] theorem qInt_int (k k' : IntKind) (n : Int) : qInt k (.int k' n) = some (.int k (k.wrap n)) := rfl

@[simp] theorem stand_rp {α : Type} (e : DV) (o : Nat) (t : Option (List Nat)) (μ : PH) (k : Option α) : stand (.rp e o) t μ k = k := rfl
/-! ## memory -/
theorem bk_at {μ : PH} {id : Nat} {b : PB} (h : μ[id]? = some b) (hl : b.live = true) : bk μ id b.ver = some b := bk_of h hl
theorem bk_set {μ : PH} {id : Nat} {b : PB} (h : id < μ.length) (hl : b.live = true) : bk (μ.set id b) id b.ver = some b := bk_of (by simp [h]) hl
theorem bk_set_ne {μ : PH} {id id' ver : Nat} {b : PB} (h : id ≠ id') : bk (μ.set id b) id' ver = bk μ id' ver := by simp [bk, List.getElem?_set_ne h]
theorem set_set {μ : PH} {id : Nat} {b b' : PB} : (μ.set id b).set id b' = μ.set id b' := by simp

theorem bk_el {μ : PH} {id ver : Nat} {b : PB} (h : bk μ id ver = some b) (E : List DV) : bk (μ.set id { b with el := E }) id ver = some { b with el := E } := by
  have h1 := (bk_some h).2
  have := bk_set (μ := μ) (b := { b with el := E }) (bk_lt h) h1.1
  rw [← h1.2]; exact this
theorem _root_.List.set_eq_take_append_cons_drop' {β : Type} {l : List β} {i : Nat} {v : β} (h : i < l.length) : l.set i v = l.take i ++ [v] ++ l.drop (i + 1) := by
  rw [List.set_eq_take_append_cons_drop, if_pos h]; simp
theorem nzL_sc {s : List Sh} {v : DV} (h : isSc v = true) : nzL s [v] = [v] := by
  cases s with
  | nil => rfl
  | cons s r => cases v <;> first | (cases s <;> cases r <;> rfl) | simp [isSc] at h
/-- a field of an element that lies in a block -/
theorem st_at {μ : PH} {id ver i off : Nat} {b : PB} {L cs : List DV} {v : DV} (hb : bk μ id ver = some b) (hop : b.op = false) (hi : i < L.length) (ho : off < cs.length) (hv : isSc v = true) (hc : cellsD v = [v]) :
    qSt (μ.set id { b with el := L.set i (.agg cs) }) 1 (.ptr id ver i off) v = some (μ.set id { b with el := L.set i (.agg (cs.set off v)) }) := by
  have hok : okC v = true := by cases v <;> simp [isSc] at hv <;> rfl
  rw [qSt_ptr (cs := [v]) (bk_el hb _) (e := .agg cs) (by simp [hi]) (by rw [hc]; rfl) (by simp; omega) (by simp only [putC, hop, cond_false, hc, List.all_cons, hok, List.all_nil, Bool.and_true, if_true, nzL_sc hv])]
  simp only [cellsD_agg, List.set_set, mkE, overD, List.length_cons, List.length_nil, Nat.zero_add]
  rw [← List.set_eq_take_append_cons_drop' ho]
/-! ## shown to a call -/
theorem clL_map {β : Type} {f : β → DV} (h : ∀ x, cl (f x) = true) : ∀ l : List β, clL (l.map f) = true
  | [] => rfl
  | x :: r => by simp [clL, h x, clL_map h r]
theorem snC_cl (μ : PH) (k : Nat) (s : Sh) {v : DV} (h : cl v = true) : snC μ (k + 1) s v = some v := by simp only [snC, h, if_true]
theorem zipO_cl (μ : PH) (k : Nat) : ∀ (s : List Sh) (l : List DV), clL l = true → zipO (snC μ (k + 1)) s l = some l
  | _, [], _ => by cases ‹List Sh› <;> rfl
  | s, v :: r, h => by
    simp only [clL, Bool.and_eq_true] at h
    cases s <;> simp [zipO, snC_cl _ _ _ h.1, zipO_cl μ k _ r h.2]
/-- what a call sees of a value -/
def sn (μ : PH) (s : List Sh) (v : DV) : Option DV := onE (snC μ 6) s v
theorem sn_cl (μ : PH) (s : List Sh) {v : DV} (h : cl v = true) : sn μ s v = some v := by
  unfold sn onE
  split
  · rename_i cs
    rw [zipO_cl μ 5 s cs (by simpa [cl] using h)]; rfl
  · exact snC_cl μ 5 _ h
theorem sn_nil (μ : PH) (e : List Sh) : sn μ [.sl e] .nil = some (.sl e []) := rfl
theorem sn_own {μ : PH} {id ver o n c : Nat} {x : Bool} {b : PB} {s : List Sh} {e : List DV} (h : bk μ id ver = some b) (he : (b.el.drop o).take n = e) (hc : clL e = true) : sn μ s (.own id ver o n c x) = some (.sl b.sh e) := by
  unfold sn onE
  simp only [snC, cl, Bool.false_eq_true, if_false, h, Option.bind_some, he, onEs, hc, if_true, Option.map_some]
theorem sn_ptr {μ : PH} {id ver i off : Nat} {b : PB} {s : List Sh} {e : DV} (h : bk μ id ver = some b) (he : b.el[i]? = some e) (hc : cl e = true) : sn μ s (.ptr id ver i off) = some (.rp e off) := by
  have h0 : sn μ s (.ptr id ver i off) = snC μ (5 + 1) (s.headD .sc) (.ptr id ver i off) := by simp only [sn, onE]
  rw [h0, snC]
  simp only [cl, Bool.false_eq_true, if_false, h, Option.bind_some, he]
  have := sn_cl μ b.sh hc
  unfold sn at this
  have h5 : onE (snC μ 5) b.sh e = some e := by
    unfold onE
    split
    · rename_i cs
      rw [zipO_cl μ 4 b.sh cs (by simpa [cl] using hc)]; rfl
    · exact snC_cl μ 4 _ hc
  rw [h5]; rfl
def sns (μ : PH) : List (Md × List Sh) → List DV → Option (List DV)
  | [], [] => some []
  | (.snap, s) :: ps, v :: vs => (sn μ s v).bind fun v => (sns μ ps vs).bind fun l => some (v :: l)
  | _, _ => none
theorem sns_pack : ∀ {μ : PH} {ps : List (Md × List Sh)} {args args' : List DV}, sns μ ps args = some args' →
    pack1 ps args μ = some (args.map fun _ => none, μ) ∧ pack2 μ ps args (args.map fun _ => none) = some args' ∧ ∀ ν, enter ps args' ν = some (args', ν)
  | μ, [], [], _, h => by simp [sns] at h; subst h; exact ⟨rfl, rfl, fun _ => rfl⟩
  | μ, (.snap, s) :: ps, v :: vs, _, h => by
    simp only [sns] at h
    obtain ⟨v', h1, h⟩ := Option.bind_eq_some_iff.1 h
    obtain ⟨l, h2, h⟩ := Option.bind_eq_some_iff.1 h
    cases h
    obtain ⟨g1, g2, g3⟩ := sns_pack h2
    unfold sn at h1
    exact ⟨by simp [pack1, g1], by simp [pack2, h1, g2], fun ν => by simp [enter, g3]⟩
  | μ, (.move, s) :: ps, v :: vs, _, h => by simp [sns] at h
  | μ, (.mut, s) :: ps, v :: vs, _, h => by simp [sns] at h
  | μ, (.ref _ _, s) :: ps, v :: vs, _, h => by simp [sns] at h
  | μ, [], _ :: _, _, h => by simp [sns] at h
  | μ, _ :: _, [], _, h => by simp [sns] at h
def okR (l : List DV) : Bool := l.all fun v => (cellsD v).all fun c => okC c || isSl c
/-- a call whose arguments are shown -/
theorem cq_sn {s : Sig} {core : List DV → PH → RD} {args args' res : List DV} {μ : PH} (hf : s.fresh = true) (hs : sns μ s.ps args = some args') (hr : run1 s core args' = some (res, [])) (hok : okR res = true) :
    cq s core args μ = some (adL true μ res) := by
  obtain ⟨h1, h2, h3⟩ := sns_pack hs
  unfold cq nC
  simp only [h1, h2, hf, Option.bind_some, cond_true, true_or, if_true, hr]
  exact if_pos fun _ => hok
theorem adL_sc {μ : PH} {v : DV} (h : isSc v = true) : adL true μ [v] = ([v], μ) := by
  cases v <;> simp [isSc] at h <;> rfl
theorem adL_sl {μ : PH} (sh : List Sh) (l : List DV) : adL true μ [.sl sh l] = ([.own μ.length 0 0 l.length l.length false], μ ++ [⟨0, sh, l, true, false, true⟩]) := rfl
theorem unfL_sc (wh : Bool) (μ : PH) : ∀ {l : List DV}, l.all isSc = true → unfL wh μ l = (l, μ)
  | [], _ => rfl
  | v :: r, h => by
    simp only [List.all_cons, Bool.and_eq_true] at h
    have ih := unfL_sc wh μ h.2
    have h1 := h.1
    cases v <;> first | (simp only [unfL, ih]; done) | exact absurd h1 (by simp [isSc])
theorem adL_agg {μ : PH} {l : List DV} (h : l.all isSc = true) : adL true μ [.agg l] = ([.agg l], μ) := by
  simp only [adL, adV, cond_true, unfL_sc true μ h]
/-- a list that is being filled -/
def pre {β : Type} (l : List β) (z : β) (i : Nat) : List β := l.take i ++ List.replicate (l.length - i) z
theorem pre_zero {β : Type} (l : List β) (z : β) : pre l z 0 = List.replicate l.length z := by simp [pre]
theorem pre_last {β : Type} (l : List β) (z : β) : pre l z l.length = l := by simp [pre]
theorem pre_len {β : Type} (l : List β) (z : β) (i : Nat) (h : i ≤ l.length) : (pre l z i).length = l.length := by simp [pre]; omega
theorem pre_set {β : Type} (l : List β) (z : β) (i : Nat) (h : i < l.length) : (pre l z i).set i l[i] = pre l z (i + 1) := by
  apply List.ext_getElem
  · rw [List.length_set, pre_len _ _ _ (by omega), pre_len _ _ _ (by omega)]
  · intro k h1 h2
    rw [List.length_set, pre_len _ _ _ (by omega)] at h1
    rw [List.getElem_set]
    simp only [pre, List.getElem_append, List.length_take]
    by_cases hk : i = k
    · subst hk; simp; omega
    · rw [if_neg hk]
      by_cases hlt : k < i
      · simp [show k < min i l.length by omega, show k < min (i + 1) l.length by omega]
      · simp [show ¬ k < min i l.length by omega, show ¬ k < min (i + 1) l.length by omega]
/-- a list that is being written over -/
def mix {β : Type} (l xs : List β) (i : Nat) : List β := l.take i ++ xs.drop i
theorem mix_zero {β : Type} (l xs : List β) : mix l xs 0 = xs := by simp [mix]
theorem mix_last {β : Type} {l xs : List β} (h : l.length = xs.length) : mix l xs l.length = l := by unfold mix; rw [h, List.drop_length, List.append_nil, ← h, List.take_length]
theorem mix_len {β : Type} {l xs : List β} (h : l.length = xs.length) (i : Nat) : (mix l xs i).length = xs.length := by simp [mix]; omega
theorem mix_set {β : Type} {l xs : List β} (hl : l.length = xs.length) {i : Nat} (h : i < l.length) : (mix l xs i).set i l[i] = mix l xs (i + 1) := by
  apply List.ext_getElem
  · rw [List.length_set, mix_len hl, mix_len hl]
  · intro k h1 h2
    rw [List.length_set, mix_len hl] at h1
    rw [List.getElem_set]
    simp only [mix, List.getElem_append, List.length_take]
    by_cases hk : i = k
    · subst hk; simp; omega
    · rw [if_neg hk]
      by_cases hlt : k < i
      · simp [show k < min i l.length by omega, show k < min (i + 1) l.length by omega]
      · simp [show ¬ k < min i l.length by omega, show ¬ k < min (i + 1) l.length by omega]
        congr 1; omega
theorem mix_get {β : Type} {l xs : List β} (hl : l.length = xs.length) {i : Nat} (h : i < l.length) : (mix l xs i)[i]? = some (xs[i]'(by omega)) := by
  simp [mix, List.getElem?_append, show min i l.length = i by omega, hl ▸ h]
theorem bk_self {μ : PH} {id ver : Nat} {b : PB} (h : bk μ id ver = some b) : μ.set id b = μ := by
  have h := (bk_some h).1
  apply List.ext_getElem?
  intro k
  rw [List.getElem?_set]
  split
  · subst_vars; rw [h]; split
    · rfl
    · rename_i hk; rw [List.getElem?_eq_none (by omega)] at h; cases h
  · rfl
/-- what a function with memory of its own says -/
theorem run1_of {s : Sig} {core : List DV → PH → RD} {args r res : List DV} {ν ν' : PH} (hf : s.fresh = true) (hsn : s.ps.all (fun q => isSnap q.1) = true) (hl : s.ps.length = args.length) (hc : core args [] = some (r, ν)) (hr : resO s.rs r ν = some (res, ν')) :
    run1 s core args = some (res, []) := by
  have he : ∀ (ps : List (Md × List Sh)) (args : List DV) (μ : PH), ps.all (fun q => isSnap q.1) = true → ps.length = args.length → enter ps args μ = some (args, μ) := by
    intro ps
    induction ps with
    | nil => intro args μ _ hl; cases args <;> simp at hl; rfl
    | cons p ps ih =>
      intro args μ h hl
      cases args with
      | nil => simp at hl
      | cons v vs =>
        simp only [List.all_cons, Bool.and_eq_true] at h
        obtain ⟨m, s⟩ := p
        have hl' : ps.length = vs.length := by simpa using hl
        cases m
        · simp only [enter, ih vs μ h.2 hl', Option.bind_some]
        all_goals exact absurd h.1 (by simp [isSnap])
  unfold run1
  simp only [he _ _ _ hsn hl, Option.bind_some, hc, hf, cond_true, hr]
theorem resO_sc {s : List Sh} {v : DV} {ν : PH} (h : isSc v = true) : resO [s] [v] ν = some ([v], ν) := by
  cases v <;> simp [isSc] at h <;> simp [resO, onS, tkC, isSc]
theorem resO_agg {s : List Sh} {l : List DV} {ν : PH} (h : l.all isSc = true) : resO [s] [.agg l] ν = some ([.agg l], ν) := by
  have hz : ∀ (l : List DV) (s : List Sh), l.all isSc = true → zipS tkC ν s l = some (l, ν) := by
    intro l
    induction l with
    | nil => intro s _; cases s <;> rfl
    | cons v r ih =>
      intro s h
      simp only [List.all_cons, Bool.and_eq_true] at h
      cases s <;> simp [zipS, tkC, h.1, ih _ h.2]
  simp [resO, onS, hz l s h]
theorem vw_own {k : Nat} {ν : PH} {id ver o n c : Nat} {x : Bool} {b : PB} {s : Sh} {e : List DV} (h : bk ν id ver = some b) (hw : b.whole = true) (ho : b.op = false) (he : (b.el.drop o).take n = e) (hc : clL e = true) :
    vwC (k + 1) ν s (.own id ver o n c x) = some (.sl b.sh e, kl ν id) := by
  simp only [vwC, cl, Bool.false_eq_true, if_false, h, Option.bind_some, hw, ho, and_self, if_true, he, onSs, hc, Option.map_some]
theorem tk_own {ν : PH} {id ver o n c : Nat} {x : Bool} {b : PB} {s : Sh} {e : List DV} (h : bk ν id ver = some b) (hw : b.whole = true) (ho : b.op = false) (he : (b.el.drop o).take n = e) (hc : clL e = true) :
    tkC ν s (.own id ver o n c x) = some (.sl b.sh e, kl ν id) := by
  simp only [tkC, isSc, Bool.false_eq_true, if_false]
  exact vw_own h hw ho he hc

theorem drop_eq {β : Type} {a b : List β} {i : Nat} (hi : i < a.length) (hj : i < b.length) : a.drop i = b.drop i ↔ a[i] = b[i] ∧ a.drop (i + 1) = b.drop (i + 1) := by
  rw [List.drop_eq_getElem_cons hi, List.drop_eq_getElem_cons hj, List.cons.injEq]
/-! ## loops -/
theorem loop_acc {σ β : Type} {F : (List DV → PH → Option β) → List DV → PH → Option β} {len : Nat} (X : Nat → σ → List DV) (M : Nat → σ → PH) (I : Nat → σ → Prop) (R : Nat → σ → Option β)
    (step : ∀ i s rec, i < len → I i s → (∃ s', I (i + 1) s' ∧ F rec (X i s) (M i s) = rec (X (i + 1) s') (M (i + 1) s') ∧ R i s = R (i + 1) s') ∨ F rec (X i s) (M i s) = R i s)
    (last : ∀ s rec, I len s → F rec (X len s) (M len s) = R len s) : ∀ (m : Nat) {N i : Nat} {s : σ}, I i s → i + m = len → m < N → iterD F N (X i s) (M i s) = R i s
  | 0, N, i, s, hI, hi, hN => by
    obtain ⟨N, rfl⟩ : ∃ k, N = k + 1 := ⟨N - 1, by omega⟩
    obtain rfl : i = len := by omega
    simp only [iterD]; exact last s _ hI
  | m + 1, N, i, s, hI, hi, hN => by
    obtain ⟨N, rfl⟩ : ∃ k, N = k + 1 := ⟨N - 1, by omega⟩
    simp only [iterD]
    rcases step i s (iterD F N) (by omega) hI with ⟨s', h1, h2, h3⟩ | h
    · rw [h2, h3]; exact loop_acc X M I R step last m h1 (by omega) (by omega)
    · exact h

/-- a loop whose answer is told by a property -/
theorem loop_ex {σ β : Type} {F : (List DV → PH → Option β) → List DV → PH → Option β} {len : Nat} (X : Nat → σ → List DV) (M : Nat → σ → PH) (I : Nat → σ → Prop) (Q : β → Prop)
    (step : ∀ i s rec, i < len → I i s → (∃ s', I (i + 1) s' ∧ F rec (X i s) (M i s) = rec (X (i + 1) s') (M (i + 1) s')) ∨ (∃ r, F rec (X i s) (M i s) = some r ∧ Q r))
    (last : ∀ s rec, I len s → ∃ r, F rec (X len s) (M len s) = some r ∧ Q r) : ∀ (m : Nat) {N i : Nat} {s : σ}, I i s → i + m = len → m < N → ∃ r, iterD F N (X i s) (M i s) = some r ∧ Q r
  | 0, N, i, s, hI, hi, hN => by
    obtain ⟨N, rfl⟩ : ∃ k, N = k + 1 := ⟨N - 1, by omega⟩
    obtain rfl : i = len := by omega
    simp only [iterD]; exact last s _ hI
  | m + 1, N, i, s, hI, hi, hN => by
    obtain ⟨N, rfl⟩ : ∃ k, N = k + 1 := ⟨N - 1, by omega⟩
    simp only [iterD]
    rcases step i s (iterD F N) (by omega) hI with ⟨s', h1, h2⟩ | h
    · rw [h2]; exact loop_ex X M I Q step last m h1 (by omega) (by omega)
    · exact h
theorem run1_ex {s : Sig} {core : List DV → PH → RD} {args res : List DV} (hf : s.fresh = true) (hsn : s.ps.all (fun q => isSnap q.1) = true) (hl : s.ps.length = args.length) (h : ∃ r, core args [] = some r ∧ ∃ ν', resO s.rs r.1 r.2 = some (res, ν')) :
    run1 s core args = some (res, []) := by
  obtain ⟨⟨r, ν⟩, h1, ν', h2⟩ := h
  exact run1_of hf hsn hl h1 h2
/-! ## clones -/
theorem flatL_map {α : Type} {f : α → DV} (h : ∀ x, flat (f x) = true) : ∀ l : List α, flatL (l.map f) = true
  | [] => rfl
  | x :: r => by simp only [List.map_cons, flatL, h x, flatL_map h r, Bool.and_self]
theorem qAp_list {sh : List Sh} {z by_ : Nat} {l : List DV} (hz : sh.length = z) (h0 : 0 < l.length) (hf : flatL l = true) (hb : l.length * by_ ≤ 140737488355328) (hp : 0 < by_) (h1 : l.length ≤ 9223372036854775807) :
    qAp [] false sh z by_ (.e0 z) (.sl sh l) = some (.own 0 l.length 0 l.length l.length false, [⟨l.length, sh, l, true, false, true⟩]) := by
  have hne : ¬ l.length = 0 := by omega
  simp only [qAp, elsOf, hz, if_true, Option.bind_some, putEs, cond_false, hf, cond_true, hne, if_false, hb, hp, h1, and_self]
  rfl
theorem clone_run {s : Sig} {core : List DV → PH → RD} {sh : List Sh} {z by_ T : Nat} {agg : Bool} {zero : List DV} {l : List DV} (hs : s = ⟨[(.snap, [.sl sh])], [[.sl sh]], true⟩)
    (hc : core [.sl sh l] [] = hk z [.sl sh l] [] (bd (qBin [] (.slice T) .eql (.sl sh l) .nil) fun v1 => qB v1 fun q2 => cond q2 (some ([.nil], [])) (b2 (qBS [] false sh agg zero z 0 []) fun v3 s4 => b2 (qAp s4 false sh z by_ v3 (.sl sh l)) fun v5 s6 => some ([v5], s6))))
    (hz : sh.length = z) (hB : qBS [] false sh agg zero z 0 [] = some (.e0 z, [])) (hf : flatL l = true) (hcl : clL l = true) (hb : l.length * by_ ≤ 140737488355328) (hp : 0 < by_) (h1 : l.length ≤ 9223372036854775807) :
    run1 s core [.sl sh l] = some ([.sl sh l], []) := by
  subst hs
  match l, hc with
  | [], hc =>
    refine run1_of rfl rfl rfl (r := [.e0 z]) (ν := []) (ν' := []) ?_ ?_
    · rw [hc]
      have : Nat.beq sh.length z = true := by rw [hz]; exact Nat.beq_refl z
      simp only [hk, this, cond_true]
    · simp [resO, onS, tkC, isSc, hz]
  | x :: r, hc =>
    refine run1_of rfl rfl rfl (r := [.own 0 (r.length + 1) 0 (r.length + 1) (r.length + 1) false]) (ν := [⟨r.length + 1, sh, x :: r, true, false, true⟩]) (ν' := kl [⟨r.length + 1, sh, x :: r, true, false, true⟩] 0) ?_ ?_
    · rw [hc]
      have hq : qBin [] (.slice T) .eql (.sl sh (x :: r)) .nil = some (.bool false) := rfl
      have ha := qAp_list (l := x :: r) hz (by simp) hf hb hp h1
      simp only [hk, hq, bd_some, qB_bool, cond_false, hB, b2_some, ha]
      rfl
    · have hb' : bk [(⟨r.length + 1, sh, x :: r, true, false, true⟩ : PB)] 0 (r.length + 1) = some ⟨r.length + 1, sh, x :: r, true, false, true⟩ := by simp [bk]
      have t1 := tk_own (s := .sl sh) (x := false) (c := r.length + 1) (n := r.length + 1) (o := 0) hb' rfl rfl (e := x :: r) (by simp) hcl
      simp only [resO, onS, List.headD_cons, t1, Option.bind_some]

theorem qAp_listM {μ : PH} {sh : List Sh} {z by_ : Nat} {l : List DV} (hz : sh.length = z) (h0 : 0 < l.length) (hf : flatL l = true) (hb : l.length * by_ ≤ 140737488355328) (hp : 0 < by_) (h1 : l.length ≤ 9223372036854775807) :
    qAp μ false sh z by_ (.e0 z) (.sl sh l) = some (.own μ.length l.length 0 l.length l.length false, μ ++ [⟨l.length, sh, l, true, false, true⟩]) := by
  have hne : ¬ l.length = 0 := by omega
  simp only [qAp, elsOf, hz, if_true, Option.bind_some, putEs, cond_false, hf, cond_true, hne, if_false, hb, hp, h1, and_self]
theorem qAp_e0 {μ : PH} {sh sh' : List Sh} {z by_ : Nat} (hz : sh.length = z) (hz' : sh'.length = z) : qAp μ false sh z by_ (.e0 z) (.sl sh' []) = some (.e0 z, μ) := by
  simp [qAp, elsOf, hz, hz']
/-- one more, where there is room -/
theorem qAp_in1 {μ : PH} {id ver o n c by_ z : Nat} {x : Bool} {b : PB} {sh : List Sh} {e : DV} (hb : bk μ id ver = some b) (hsh : b.sh.length = z) (hs : sh.length = z) (hop : b.op = false) (hf : flat e = true) (hc : n + 1 ≤ c) :
    qAp μ false sh z by_ (.own id ver o n c x) (.sl sh [e]) = some (.own id ver o (n + 1) c x, μ.set id { b with el := overD b.el (o + n) [e] }) := by
  simp only [qAp, elsOf, hs, if_true, Option.bind_some, hb, hsh, List.length_cons, List.length_nil, Nat.zero_add, putEs, hop, cond_false, flatL, hf, Bool.and_self, hc]
  rfl
/-- one more, where there is none -/
theorem qAp_up1 {μ : PH} {id ver o n c by_ z : Nat} {b : PB} {sh : List Sh} {e : DV} (hb : bk μ id ver = some b) (hsh : b.sh.length = z) (hs : sh.length = z) (hop : b.op = false) (hw : b.whole = true) (hf : flat e = true) (hc : ¬ n + 1 ≤ c)
    (hp : 0 < by_) (hy : (n + 1) * by_ ≤ 140737488355328) (hn : n + 1 ≤ 9223372036854775807) :
    qAp μ false sh z by_ (.own id ver o n c false) (.sl sh [e]) = some (.own id (ver + 1) 0 (n + 1) (n + 1) false, μ.set id ⟨ver + 1, b.sh, (b.el.drop o).take n ++ [e], true, false, true⟩) := by
  simp only [qAp, elsOf, hs, if_true, Option.bind_some, hb, hsh, List.length_cons, List.length_nil, Nat.zero_add, putEs, hop, cond_false, flatL, hf, Bool.and_self, hc, hy, hp, hn, and_self, hw, cond_true, Bool.false_eq_true, if_false]
  simp
theorem qNil_ptr {μ : PH} {id ver i o : Nat} {b : PB} (h : bk μ id ver = some b) : qNil μ (.ptr id ver i o) = some (.ptr id ver i o) := by simp [qNil, h]
/-- a cell, or a whole value, read where only flat ones and slices of blocks lie -/
theorem qLd_ok {μ : PH} {id ver i off size : Nat} {agg : Bool} {b : PB} {e v : DV} (h : bk μ id ver = some b) (he : b.el[i]? = some e) (hk : (((cellsD e).drop off).take size).all okC = true) (hv : getC (cellsD e) off size agg = some v) :
    qLd μ size agg (.ptr id ver i off) = some (v, μ) := by
  simp only [qLd, h, he, Option.bind_some, hk, or_true, if_true, hv, Option.map_some]
theorem kl_gne {μ : PH} {i j : Nat} (h : i ≠ j) : (kl μ i)[j]? = μ[j]? := by
  unfold kl; split
  · rw [List.getElem?_set_ne h]
  · rfl
theorem kl_ne {μ : PH} {i j v : Nat} (h : i ≠ j) : bk (kl μ i) j v = bk μ j v := by unfold bk; rw [kl_gne h]
/-! ## a law's opening -/
/-- a slice of flat values, as it came in -/
def RdT {α : Type} [Rep α] (σ : LH) (v : Value) (xs : List α) : Prop :=
  (xs = [] ∧ v = .slice none 0 0) ∨ ∃ b o c blk, v = .slice (some ⟨b, o, some (Rep.sz α)⟩) xs.length c ∧ xs.length ≤ c / 2 ∧ σ.mem b = some blk ∧ o + xs.length * Rep.sz α ≤ blk.cells.length ∧
    ∀ (i : Nat) x, xs[i]? = some x → Rep.rd σ (cellsAt (blk.cells.drop o) (Rep.sz α) i) x
theorem open_list {α : Type} [Enc α] {P : Program} {H : Type} {enc : TypeId × Value → H} {w : World} {base : Nat} {spare : Nat → Bool} {held : Bool} {fuel : Nat} {t e : TypeId} {cs : List Value} {x : DataW H × List MemPlace}
    (hel : ∀ fuel cs x, DataW.trod enc P w base spare held fuel e cs = some x → ∃ y : α, cs = Enc.enc y ∧ Enc.good y) (hconst : ∀ (y : α), ∀ c ∈ Enc.enc y, constOk c = true) (hsz : P.cellsOf e = Rep.sz α) (ht : P.underlying t = some (.slice e))
    (h : DataW.trod enc P w base spare held fuel t cs = some x) (hsp : ∀ a n c, cs = [.slice (some a) n c] → a.spot = none ∧ a.block < w.heap.size)
    {σ : LH} {π : Pl} (hr : HRel σ π w) (hro : ReadOnly σ) :
    ∃ (v' : Value) (xs : List α) (σ' : LH) (π' : Pl) (v : Value), cs = [v'] ∧ HRel σ' π' w ∧ ReadOnly σ' ∧ Ext σ σ' ∧ Go.Lg.More π π' ∧ VR π' v v' ∧ RdT σ' v xs ∧ (xs.length : Int) ≤ 9223372036854775807 := by
  rcases DataW.trod_slice ht h with ⟨rfl, _⟩ | ⟨a, len, cap, elems, rest, n, _, rfl, _, _, hlc, hcm, helen, hget, _⟩
  · exact ⟨_, [], σ, π, .slice none 0 0, rfl, hr, hro, Mod.refl _ _, fun _ _ h => h, .slcN, .inl ⟨rfl, rfl⟩, by simp⟩
  · obtain ⟨hs1, hs2⟩ := hsp a len cap rfl
    rw [hsz] at hget
    have hex : ∀ i, i < len → ∃ y : α, Enc.good y ∧ ∀ k c, (Enc.enc y)[k]? = some c → w.cell? ⟨a.block, a.off + i * Rep.sz α + k, none⟩ = some c := by
      intro i hi
      have hg := hget i hi
      rw [List.getElem?_eq_getElem (by omega)] at hg
      obtain ⟨c2, hc, ht2⟩ := Option.bind_eq_some_iff.1 hg
      obtain ⟨y, rfl, hgood⟩ := hel _ _ _ ht2
      refine ⟨y, hgood, fun k c hk => ?_⟩
      unfold World.cells? at hc
      split at hc
      · have hkl : k < Rep.sz α := by have := (List.getElem?_eq_some_iff.1 hk).1; rw [Enc.elen] at this; exact this
        have := mapM_some_get hc k k (by simp [hkl])
        rw [add_add hs1] at this
        rw [this]; exact hk
      · cases hc
    obtain ⟨xs, hx1, hx2⟩ := choose_list _ len hex
    have hcell : ∀ (i : Nat) v, (xs.flatMap Enc.enc)[i]? = some v → ∃ v', w.cell? ⟨a.block, i + a.off, none⟩ = some v' ∧ VR π v v' := by
      intro i v hv
      have hlt := (List.getElem?_eq_some_iff.1 hv).1
      rw [flat_len] at hlt
      have hz : 0 < Rep.sz α := Rep.pos
      have hq : i / Rep.sz α < xs.length := Nat.div_lt_of_lt_mul (by rw [Nat.mul_comm]; exact hlt)
      obtain ⟨y, hy⟩ : ∃ y, xs[i / Rep.sz α]? = some y := ⟨_, List.getElem?_eq_getElem hq⟩
      have h1 := flat_at xs (i / Rep.sz α) y hy
      have h2 : (cellsAt (xs.flatMap Enc.enc) (Rep.sz α) (i / Rep.sz α))[i % Rep.sz α]? = some v := by
        rw [cellsAt_get, if_pos (Nat.mod_lt _ hz), Nat.mul_comm, Nat.div_add_mod]; exact hv
      rw [h1] at h2
      have h3 := (hx2 _ y hy).2 _ v h2
      refine ⟨v, ?_, constOk_VR π (hconst y v (List.mem_of_getElem? h2))⟩
      rw [← h3]; congr 2
      have := Nat.div_add_mod i (Rep.sz α)
      rw [Nat.mul_comm] at this; omega
    have hones : Ones (xs.flatMap Enc.enc) := fun v hv => by
      obtain ⟨y, _, hy⟩ := List.mem_flatMap.1 hv
      exact Enc.eones y v hy
    obtain ⟨k1, k2⟩ := hr.row hro (s := a.off) (n := 0) hs2 hones hcell
    refine ⟨_, xs, _, _, .slice (some ⟨σ.next, 0, some (Rep.sz α)⟩) len (capE cap), rfl, k1, hro.push _, Ext.push _ _, k2, ?_, ?_, ?_⟩
    · obtain ⟨b, o, s⟩ := a
      simp only at hs1; subst hs1
      exact .slc σ.next 0 len (capE cap) (Rep.sz α) o cap ⟨b, o, 0, false⟩ (upd_same _ _ _) (fun _ => by simp) (by simp [capE]; omega) (fun _ => by simp [capE]; omega) (by simp [capE]; omega) nofun
    · refine .inr ⟨σ.next, 0, capE cap, ⟨xs.flatMap Enc.enc, false⟩, by rw [hx1], by simp [capE]; omega, by simp [LH.push], by show 0 + _ ≤ (xs.flatMap Enc.enc).length; rw [flat_len]; omega, fun i x hx => ?_⟩
      simp only [List.drop_zero]
      rw [flat_at xs i x hx]
      exact ⟨rfl, (hx2 i x hx).1⟩
    · have h1 : maxLen ≤ 9223372036854775807 := by decide
      omega

def scal : Value → Bool | .int .. => true | .bool _ => true | .string _ => true | _ => false
theorem tv_scal {S : St} {c : Value} (h : scal c = true) : TV S (dvC c) c := by
  cases c <;> first | exact .int _ _ | exact .bool _ | exact .str _ | simp [scal] at h
theorem tvs_scal {S : St} : ∀ {l : List Value}, (∀ c ∈ l, scal c = true) → TVs S (l.map dvC) l
  | [], _ => .nil
  | c :: r, h => .cons (tv_scal (h c List.mem_cons_self)) (tvs_scal fun x hx => h x (List.mem_cons_of_mem _ hx))
theorem tv_list {α : Type} [Enc α] {σ : LH} {v : Value} {xs : List α} (hro : ReadOnly σ) (hmd : MD σ) (h : RdT σ v xs) (hsc : ∀ x : α, ∀ c ∈ Enc.enc x, scal c = true) {f : α → DV} (hf : ∀ x, cellsD (f x) = (Enc.enc x).map dvC)
    {sh : List Sh} (hsh : sh.length = Rep.sz α) : TV (St.bare σ (fun b => b < σ.next)) (.sl sh (xs.map f)) v := by
  rcases h with ⟨rfl, rfl⟩ | ⟨b, o, c, blk, rfl, h1, h2, h3, h4⟩
  · exact .slN sh
  · have hb : b < σ.next := by
      rcases Nat.lt_or_ge b σ.next with h | h
      · exact h
      · rw [hmd b h] at h2; cases h2
    have := TV.sl (S := St.bare σ (fun b => b < σ.next)) sh (xs.map f) b o c blk hb h2 (by simpa using h1) (by rw [hsh]; simpa using h3) (fun hw => by rw [hro _ _ h2] at hw; cases hw) (fun i e he => by
      rw [List.getElem?_map] at he
      obtain ⟨x, hx, rfl⟩ := Option.map_eq_some_iff.1 he
      rw [hsh, hf x, (h4 i x hx).1]
      exact tvs_scal (hsc x))
    rw [List.length_map, hsh] at this
    exact this
theorem law_ev {P : PEnv} (hG : ∀ T ti, P.E.ti T = some ti → tiGood ti = true) (hC : ClOk P) {N n f : Nat} {args : List DV} {vargs : List Value} {μ' : PH} {b : Bool} {σ : LH} (hmd : MD σ) (h : qfn P N n f args [] = some ([.bool b], μ'))
    (hv : TVs (St.bare σ (fun b => b < σ.next)) args vargs) : ∃ σ', evFn P.E N n f vargs σ = some ([.bool b], σ') := by
  obtain ⟨vres, S', h1, _, _, h2, _⟩ := qfn_sim hG hC N n f args _ μ' (St.bare σ (fun b => b < σ.next)) vargs h (bare_ok (fun _ h => h) hmd) hv
  cases h2 with
  | cons h2 h3 => cases h2; cases h3; exact ⟨_, h1⟩
theorem goodOf {tis : List (Nat × TI)} {E : Env} (hE : E.ti = look tis) (h : (tis.all fun p => tiGood p.2) = true) : ∀ T ti, E.ti T = some ti → tiGood ti = true := fun T ti h' => by
  rw [hE] at h'
  exact List.all_eq_true.1 h _ (look_mem h')
end Go.Lg.Pv
