/- Values that bear what they lead to: a law's arguments, opened one by one. -/
import Derived.Test.YtdiilljbojhpoaaPackD
namespace Go.Lg.Pv
open Go Go.Lg
open Go.RowKit (Below)
set_option linter.unusedVariables false
set_option linter.unnecessarySimpa false
set_option linter.unusedSimpArgs false

theorem RdT.ext {α : Type} [Enc α] {σ σ' : LH} {v : Value} {xs : List α} (h : RdT σ v xs) (hm : MD σ) (he : Ext σ σ') : RdT σ' v xs := by
  rcases h with h | ⟨b, o, c, blk, h1, h2, h3, h4, h5⟩
  · exact .inl h
  · have hb : b < σ.next := by
      rcases Nat.lt_or_ge b σ.next with h | h
      · exact h
      · rw [hm b h] at h3; cases h3
    exact .inr ⟨b, o, c, blk, h1, h2, by rw [he.eq b hb (fun h => h)]; exact h3, h4, fun i x hx => h5 i x hx⟩
theorem open_list' {α : Type} [Enc α] {P : Program} {H : Type} {enc : TypeId × Value → H} {w : World} {base : Nat} {spare : Nat → Bool} {held : Bool} {fuel : Nat} {t e : TypeId} {cs : List Value} {x : DataW H × List MemPlace}
    (hel : ∀ fuel cs x, DataW.trod enc P w base spare held fuel e cs = some x → ∃ y : α, cs = Enc.enc y ∧ Enc.good y) (hconst : ∀ (y : α), ∀ c ∈ Enc.enc y, constOk c = true) (hsz : P.cellsOf e = Rep.sz α) (ht : P.underlying t = some (.slice e))
    (h : DataW.trod enc P w base spare held fuel t cs = some x) (hsp : ∀ a n c, cs = [.slice (some a) n c] → a.spot = none ∧ a.block < w.heap.size) :
    ∃ (v' : Value) (xs : List α), cs = [v'] ∧ (∀ x ∈ xs, Enc.good x) ∧ (xs.length : Int) ≤ 9223372036854775807 ∧ ∀ {σ : LH} {π : Pl}, HRel σ π w → ReadOnly σ →
      ∃ (σ' : LH) (π' : Pl) (v : Value), HRel σ' π' w ∧ ReadOnly σ' ∧ Ext σ σ' ∧ Go.Lg.More π π' ∧ VR π' v v' ∧ RdT σ' v xs := by
  rcases DataW.trod_slice ht h with ⟨rfl, _⟩ | ⟨a, len, cap, elems, rest, n, _, rfl, _, _, hlc, hcm, helen, hget, _⟩
  · exact ⟨_, [], rfl, by simp, by simp, fun {σ π} hr hro => ⟨σ, π, .slice none 0 0, hr, hro, Mod.refl _ _, fun _ _ h => h, .slcN, .inl ⟨rfl, rfl⟩⟩⟩
  · obtain ⟨hs1, hs2⟩ := hsp a len cap rfl
    rw [hsz] at hget
    have hex : ∀ i, i < len → ∃ y : α, Enc.good y ∧ ∀ k c, (Enc.enc y)[k]? = some c → w.cell? ⟨a.block, a.off + i * Rep.sz α + k, none⟩ = some c := by
      intro i hi
      have hg := hget i hi
      rw [List.getElem?_eq_getElem (by omega)] at hg
      obtain ⟨c2, hc, ht2⟩ := Option.bind_eq_some_iff.1 hg
      obtain ⟨y, rfl, hgood⟩ := hel _ _ _ ht2
      refine ⟨y, hgood, fun k c hk => ?_⟩
      unfold World.cells? at hc
      split at hc
      · have hkl : k < Rep.sz α := by have := (List.getElem?_eq_some_iff.1 hk).1; rw [Enc.elen] at this; exact this
        have := mapM_some_get hc k k (by simp [hkl])
        rw [add_add hs1] at this
        rw [this]; exact hk
      · cases hc
    obtain ⟨xs, hx1, hx2⟩ := choose_list _ len hex
    have hgd : ∀ x ∈ xs, Enc.good x := fun x hx => by
      obtain ⟨i, hi⟩ := List.getElem?_of_mem hx
      exact (hx2 i x hi).1
    have hlen : (xs.length : Int) ≤ 9223372036854775807 := by
      have h1 : maxLen ≤ 9223372036854775807 := by decide
      omega
    refine ⟨_, xs, rfl, hgd, hlen, fun {σ π} hr hro => ?_⟩
    have hcell : ∀ (i : Nat) v, (xs.flatMap Enc.enc)[i]? = some v → ∃ v', w.cell? ⟨a.block, i + a.off, none⟩ = some v' ∧ VR π v v' := by
      intro i v hv
      have hlt := (List.getElem?_eq_some_iff.1 hv).1
      rw [flat_len] at hlt
      have hz : 0 < Rep.sz α := Rep.pos
      have hq : i / Rep.sz α < xs.length := Nat.div_lt_of_lt_mul (by rw [Nat.mul_comm]; exact hlt)
      obtain ⟨y, hy⟩ : ∃ y, xs[i / Rep.sz α]? = some y := ⟨_, List.getElem?_eq_getElem hq⟩
      have h1 := flat_at xs (i / Rep.sz α) y hy
      have h2 : (cellsAt (xs.flatMap Enc.enc) (Rep.sz α) (i / Rep.sz α))[i % Rep.sz α]? = some v := by
        rw [cellsAt_get, if_pos (Nat.mod_lt _ hz), Nat.mul_comm, Nat.div_add_mod]; exact hv
      rw [h1] at h2
      have h3 := (hx2 _ y hy).2 _ v h2
      refine ⟨v, ?_, constOk_VR π (hconst y v (List.mem_of_getElem? h2))⟩
      rw [← h3]; congr 2
      have := Nat.div_add_mod i (Rep.sz α)
      rw [Nat.mul_comm] at this; omega
    have hones : Ones (xs.flatMap Enc.enc) := fun v hv => by
      obtain ⟨y, _, hy⟩ := List.mem_flatMap.1 hv
      exact Enc.eones y v hy
    obtain ⟨k1, k2⟩ := hr.row hro (s := a.off) (n := 0) hs2 hones hcell
    refine ⟨_, _, .slice (some ⟨σ.next, 0, some (Rep.sz α)⟩) len (capE cap), k1, hro.push _, Ext.push _ _, k2, ?_, ?_⟩
    · obtain ⟨b, o, s⟩ := a
      simp only at hs1; subst hs1
      exact .slc σ.next 0 len (capE cap) (Rep.sz α) o cap ⟨b, o, 0, false⟩ (upd_same _ _ _) (fun _ => by simp) (by simp [capE]; omega) (fun _ => by simp [capE]; omega) (by simp [capE]; omega) nofun
    · refine .inr ⟨σ.next, 0, capE cap, ⟨xs.flatMap Enc.enc, false⟩, by rw [hx1], by simp [capE]; omega, by simp [LH.push], by show 0 + _ ≤ (xs.flatMap Enc.enc).length; rw [flat_len]; omega, fun i x hx => ?_⟩
      simp only [List.drop_zero]
      rw [flat_at xs i x hx]
      exact ⟨rfl, (hx2 i x hx).1⟩

/-- cells of an argument, opened in any heap -/
def Opens (w : World) (cs : List Value) (D : List DV) : Prop := ∀ (σ : LH) (π : Pl), HRel σ π w → ReadOnly σ → ∃ σ' π' vs, HRel σ' π' w ∧ ReadOnly σ' ∧ Ext σ σ' ∧ Go.Lg.More π π' ∧ VRs π' vs cs ∧ Ones vs ∧
  ∀ σ'', ReadOnly σ'' → MD σ'' → Ext σ' σ'' → TVs (St.bare σ'' (fun b => b < σ''.next)) D vs
theorem VRs.mono {π π' : Pl} (hm : Go.Lg.More π π') : ∀ {l l' : List Value}, VRs π l l' → VRs π' l l'
  | _, _, .nil => .nil
  | _, _, .cons h t => .cons (VR.mono hm h) (VRs.mono hm t)
theorem VRs.append {π : Pl} : ∀ {a a' b b' : List Value}, VRs π a a' → VRs π b b' → VRs π (a ++ b) (a' ++ b')
  | _, _, _, _, .nil, k => k
  | _, _, _, _, .cons h t, k => .cons h (VRs.append t k)
theorem TVs.app {S : St} : ∀ {a b : List DV} {a' b' : List Value}, TVs S a a' → TVs S b b' → TVs S (a ++ b) (a' ++ b')
  | [], _, _, _, h, k => by cases h; exact k
  | x :: r, _, _, _, h, k => by cases h with | cons h1 h2 => exact .cons h1 (TVs.app h2 k)
theorem Ext.tr {a b c : LH} (h : Ext a b) (k : Ext b c) : Ext a c := Mod.trans h k
theorem Opens.nil (w : World) : Opens w [] [] := fun σ π hr ho => ⟨σ, π, [], hr, ho, Mod.refl _ _, fun _ _ h => h, .nil, nofun, fun _ _ _ _ => .nil⟩
theorem Opens.append {w : World} {cs cs' : List Value} {D D' : List DV} (h : Opens w cs D) (k : Opens w cs' D') : Opens w (cs ++ cs') (D ++ D') := fun σ π hr ho => by
  obtain ⟨σ1, π1, v1, a1, a2, a3, a4, a5, a6, a7⟩ := h σ π hr ho
  obtain ⟨σ2, π2, v2, b1, b2, b3, b4, b5, b6, b7⟩ := k σ1 π1 a1 a2
  exact ⟨σ2, π2, v1 ++ v2, b1, b2, Ext.tr a3 b3, fun b e h => b4 b e (a4 b e h), (a5.mono b4).append b5, fun v hv => (List.mem_append.1 hv).elim (a6 v) (b6 v), fun σ'' h1 h2 h3 => (a7 σ'' h1 h2 (Ext.tr b3 h3)).app (b7 σ'' h1 h2 h3)⟩
theorem Opens.cons {w : World} {c : Value} {cs : List Value} {d : DV} {D : List DV} (h : Opens w [c] [d]) (k : Opens w cs D) : Opens w (c :: cs) (d :: D) := h.append k
theorem Opens.int (w : World) (k : IntKind) (n : Int) : Opens w [.int k n] [.int k n] := fun σ π hr ho => ⟨σ, π, [.int k n], hr, ho, Mod.refl _ _, fun _ _ h => h, .cons (.int _ _) .nil, fun v hv => by simp at hv; subst hv; rfl, fun _ _ _ _ => .cons (.int _ _) .nil⟩
theorem Opens.bool (w : World) (b : Bool) : Opens w [.bool b] [.bool b] := fun σ π hr ho => ⟨σ, π, [.bool b], hr, ho, Mod.refl _ _, fun _ _ h => h, .cons (.bool _) .nil, fun v hv => by simp at hv; subst hv; rfl, fun _ _ _ _ => .cons (.bool _) .nil⟩
theorem Opens.str (w : World) (s : ByteArray) : Opens w [.string s] [.str s] := fun σ π hr ho => ⟨σ, π, [.string s], hr, ho, Mod.refl _ _, fun _ _ h => h, .cons (.string _) .nil, fun v hv => by simp at hv; subst hv; rfl, fun _ _ _ _ => .cons (.str _) .nil⟩
/-- a slice of flat values -/
theorem opens_list {α : Type} [Enc α] {P : Program} {H : Type} {enc : TypeId × Value → H} {w : World} {base : Nat} {spare : Nat → Bool} {held : Bool} {fuel : Nat} {t e : TypeId} {c : Value} {x : DataW H × List MemPlace}
    (hel : ∀ fuel cs x, DataW.trod enc P w base spare held fuel e cs = some x → ∃ y : α, cs = Enc.enc y ∧ Enc.good y) (hconst : ∀ (y : α), ∀ c ∈ Enc.enc y, constOk c = true) (hscal : ∀ (y : α), ∀ c ∈ Enc.enc y, scal c = true) (hsz : P.cellsOf e = Rep.sz α) (ht : P.underlying t = some (.slice e))
    {f : α → DV} (hf : ∀ x, cellsD (f x) = (Enc.enc x).map dvC) {sh : List Sh} (hsh : sh.length = Rep.sz α)
    (h : DataW.trod enc P w base spare held fuel t [c] = some x) (hsp : ∀ a n k, c = .slice (some a) n k → a.spot = none ∧ a.block < w.heap.size) :
    ∃ xs : List α, (∀ x ∈ xs, Enc.good x) ∧ (xs.length : Int) ≤ 9223372036854775807 ∧ Opens w [c] [.sl sh (xs.map f)] := by
  obtain ⟨v', xs, hc, h1, h2, h3⟩ := open_list' hel hconst hsz ht h (fun a n k he => hsp a n k (by cases he; rfl))
  cases hc
  refine ⟨xs, h1, h2, fun σ π hr ho => ?_⟩
  obtain ⟨σ', π', v, a1, a2, a3, a4, a5, a6⟩ := h3 hr ho
  refine ⟨σ', π', [v], a1, a2, a3, a4, .cons a5 .nil, fun y hy => ?_, fun σ'' b1 b2 b3 => .cons (tv_list b1 b2 (a6.ext a1.mdom b3) hscal hf hsh) .nil⟩
  simp at hy; subst hy
  rcases a6 with ⟨_, rfl⟩ | ⟨_, _, _, _, rfl, _⟩ <;> rfl
/-- an argument -/
def OpensA (w : World) (c : Value) (d : DV) : Prop := ∀ (σ : LH) (π : Pl), HRel σ π w → ReadOnly σ → ∃ σ' π' v, HRel σ' π' w ∧ ReadOnly σ' ∧ Ext σ σ' ∧ Go.Lg.More π π' ∧ VR π' v c ∧
  ∀ σ'', ReadOnly σ'' → MD σ'' → Ext σ' σ'' → TV (St.bare σ'' (fun b => b < σ''.next)) d v
theorem Opens.one {w : World} {c : Value} {d : DV} (h : Opens w [c] [d]) : OpensA w c d := fun σ π hr ho => by
  obtain ⟨σ1, π1, v1, a1, a2, a3, a4, a5, a6, a7⟩ := h σ π hr ho
  cases a5 with
  | cons h1 h2 =>
    cases h2
    exact ⟨σ1, π1, _, a1, a2, a3, a4, h1, fun σ'' b1 b2 b3 => by cases a7 σ'' b1 b2 b3 with | cons k1 k2 => exact k1⟩
theorem Opens.agg {w : World} {cs : List Value} {D : List DV} (h : Opens w cs D) : OpensA w (.agg cs.toArray) (.agg D) := fun σ π hr ho => by
  obtain ⟨σ1, π1, v1, a1, a2, a3, a4, a5, a6, a7⟩ := h σ π hr ho
  exact ⟨σ1, π1, .agg v1.toArray, a1, a2, a3, a4, VR.of_list a5 a6, fun σ'' b1 b2 b3 => .agg _ _ (a7 σ'' b1 b2 b3)⟩
inductive OpensAs (w : World) : List Value → List DV → Prop where
  | nil : OpensAs w [] []
  | cons {c : Value} {d : DV} {cs : List Value} {D : List DV} : OpensA w c d → OpensAs w cs D → OpensAs w (c :: cs) (d :: D)
theorem OpensAs.all {w : World} : ∀ {cs : List Value} {D : List DV}, OpensAs w cs D → ∀ (σ : LH) (π : Pl), HRel σ π w → ReadOnly σ → ∃ σ' π' vs, HRel σ' π' w ∧ ReadOnly σ' ∧ Ext σ σ' ∧ Go.Lg.More π π' ∧ VRs π' vs cs ∧
    ∀ σ'', ReadOnly σ'' → MD σ'' → Ext σ' σ'' → TVs (St.bare σ'' (fun b => b < σ''.next)) D vs
  | _, _, .nil, σ, π, hr, ho => ⟨σ, π, [], hr, ho, Mod.refl _ _, fun _ _ h => h, .nil, fun _ _ _ _ => .nil⟩
  | _, _, .cons h t, σ, π, hr, ho => by
    obtain ⟨σ1, π1, v, a1, a2, a3, a4, a5, a6⟩ := h σ π hr ho
    obtain ⟨σ2, π2, vs, b1, b2, b3, b4, b5, b6⟩ := t.all σ1 π1 a1 a2
    exact ⟨σ2, π2, v :: vs, b1, b2, Ext.tr a3 b3, fun b e h => b4 b e (a4 b e h), .cons (VR.mono b4 a5) b5, fun σ'' h1 h2 h3 => .cons (a6 σ'' h1 h2 (Ext.tr b3 h3)) (b6 σ'' h1 h2 h3)⟩
/-- a law, from its arguments' opening and what the evaluator says -/
theorem law_open {Q : Program} {P : PEnv} (hE : EnvOk Q P.E) (hq : ∀ T q ks, P.E.eqT T = q :: ks → eqTOk Q T (q :: ks) = true) (hG : ∀ T ti, P.E.ti T = some ti → tiGood ti = true) (hC : ClOk P) {N n f : Nat} {w : World} {cs : List Value} {D : List DV} (h : OpensAs w cs D)
    (hl : ∃ μ', qfn P N n f D [] = some ([.bool true], μ')) : Calls Q f cs.toArray w fun e w' => e = .returned (.bool true) ∧ Below w.heap.size w w' := by
  obtain ⟨μ', hl⟩ := hl
  obtain ⟨σ, π, vs, a1, a2, _, _, a5, a6⟩ := h.all _ _ (HRel.empty w) ReadOnly.empty
  obtain ⟨σ', hres⟩ := law_ev hG hC a1.mdom hl (a6 σ a2 a1.mdom (Mod.refl _ _))
  exact law_walk_bool hE hq hres a1 a2 a5
theorem wf_inI {m : Int} (g : (Lit.int .i64 m).wf = true) : inI m := by
  simp only [Lit.wf, IntKind.min, IntKind.max, IntKind.signed, IntKind.bits] at g
  simp at g
  constructor <;> omega
theorem len_str {s : ByteArray} (g : s.size ≤ maxLen) : (s.size : Int) ≤ 9223372036854775807 := by
  have : maxLen ≤ 9223372036854775807 := by decide
  omega
theorem spot_ok {P : Program} {w : World} {base2 : Nat} {t q : TypeId} {c : Value} (ht : P.underlying t = some (.slice q)) (hcell : Cell.okWide P w .any base2 t c) : ∀ ad n k, c = .slice (some ad) n k → ad.spot = none ∧ ad.block < w.heap.size := fun ad n k he => by
  subst he
  simp only [Cell.okWide, ht, Cell.ok] at hcell
  obtain ⟨_, _, _, hsp, row, cells, hshape, _⟩ := hcell
  refine ⟨hsp, ?_⟩
  unfold World.shape? at hshape
  rcases Nat.lt_or_ge ad.block w.heap.size with h' | h'
  · exact h'
  · rw [Array.getElem?_eq_none h'] at hshape; cases hshape
end Go.Lg.Pv
namespace Go.Lg.Pv
open Go Go.Lg
set_option linter.unusedVariables false
set_option linter.unnecessarySimpa false
set_option linter.unusedSimpArgs false

theorem xSl_hi {μ : PH} {id ver o n c z : Nat} {x : Bool} {b : PB} {kk : IntKind} {k : Int} (hb : bk μ id ver = some b) (hz : b.sh.length = z) (h0 : 0 ≤ k) (h1 : k ≤ n) (hc : n ≤ c) : qSl μ z (.own id ver o n c x) none (some (.int kk k)) none = some (.own id ver o k.toNat c x) := by
  simp [qSl, hb, hz, qBd, asID, h0, show k ≤ (c : Int) by omega]
theorem xSl_lo {μ : PH} {id ver o n c z : Nat} {x : Bool} {b : PB} {kk : IntKind} {k : Int} (hb : bk μ id ver = some b) (hz : b.sh.length = z) (h0 : 0 ≤ k) (h1 : k ≤ n) : qSl μ z (.own id ver o n c x) (some (.int kk k)) none none = some (.own id ver (o + k.toNat) (n - k.toNat) (c - k.toNat) x) := by
  simp [qSl, hb, hz, qBd, asID, h0, h1]
/-- a block bears a list, from a place on -/
structure IsL {α : Type} (sh : List Sh) (f : α → DV) (b : PB) (o n : Nat) (l : List α) : Prop where
  sh_ : b.sh = sh
  op : b.op = false
  wh : b.whole = true
  el : (b.el.drop o).take n = l.map f
  len : o + n ≤ b.el.length
theorem IsL.n {α : Type} {sh : List Sh} {f : α → DV} {b : PB} {o n : Nat} {l : List α} (h : IsL sh f b o n l) : n = l.length := by
  have := congrArg List.length h.el
  have hl := h.len
  rw [List.length_take, List.length_drop, List.length_map] at this
  omega
theorem IsL.at_ {α : Type} {sh : List Sh} {f : α → DV} {b : PB} {o n : Nat} {l : List α} (h : IsL sh f b o n l) {i : Nat} (hi : i < l.length) : b.el[o + i]? = some (f l[i]) := by
  have hm := h.n
  have := congrArg (fun x => x[i]?) h.el
  simp only [List.getElem?_take, List.getElem?_drop, List.getElem?_map] at this
  rw [if_pos (by omega)] at this
  rw [this, List.getElem?_eq_getElem hi]; rfl
theorem IsL.push {α : Type} {sh : List Sh} {f : α → DV} {μ : PH} {id ver o n c z by_ : Nat} {b : PB} {l : List α} (h : IsL sh f b o n l) (hb : bk μ id ver = some b) (hz : sh.length = z) (hc : n ≤ c) (hp : 0 < by_) (hy : (n + 1) * by_ ≤ 140737488355328) (hn : n + 1 ≤ 9223372036854775807) (x : α) (hf : flat (f x) = true) :
    ∃ v' o' c' b', qAp μ false sh z by_ (.own id ver o n c false) (.sl sh [f x]) = some (.own id v' o' (n + 1) c' false, μ.set id b') ∧ bk (μ.set id b') id v' = some b' ∧ IsL sh f b' o' (n + 1) (l ++ [x]) ∧ n + 1 ≤ c' := by
  have hm := h.n
  have hlen := h.len
  by_cases hcc : n + 1 ≤ c
  · have ha := qAp_in1 (o := o) (x := false) (by_ := by_) hb (by rw [h.sh_]; exact hz) hz h.op hf hcc
    refine ⟨ver, o, c, _, ha, bk_el hb _, ⟨h.sh_, h.op, h.wh, ?_, ?_⟩, hcc⟩
    · show ((overD b.el (o + n) [f x]).drop o).take (n + 1) = (l ++ [x]).map f
      rw [List.map_append, ← h.el]
      unfold overD
      rw [List.append_assoc, List.drop_append_of_le_length (by rw [List.length_take]; omega), List.drop_take, show o + n - o = n by omega]
      rw [List.take_append, List.take_of_length_le (by rw [List.length_take, List.length_drop]; omega)]
      rw [List.length_take, List.length_drop, show n + 1 - min n (b.el.length - o) = 1 by omega]
      simp
    · show o + (n + 1) ≤ (overD b.el (o + n) [f x]).length
      unfold overD
      simp only [List.length_append, List.length_take, List.length_cons, List.length_nil, List.length_drop]
      omega
  · have ha := qAp_up1 (o := o) (by_ := by_) hb (by rw [h.sh_]; exact hz) hz h.op h.wh hf hcc hp hy hn
    have hL : ((b.el.drop o).take n).length = n := by rw [List.length_take, List.length_drop]; omega
    refine ⟨ver + 1, 0, n + 1, _, ha, bk_set (b := ⟨ver + 1, b.sh, (b.el.drop o).take n ++ [f x], true, false, true⟩) (bk_lt hb) rfl, ⟨h.sh_, rfl, rfl, ?_, ?_⟩, Nat.le_refl _⟩
    · show (((b.el.drop o).take n ++ [f x]).drop 0).take (n + 1) = (l ++ [x]).map f
      rw [List.drop_zero, List.map_append, ← h.el]
      exact List.take_of_length_le (by rw [List.length_append, hL]; simp)
    · show 0 + (n + 1) ≤ ((b.el.drop o).take n ++ [f x]).length
      rw [List.length_append, hL]; simp
theorem IsL.sn {α : Type} {sh : List Sh} {f : α → DV} {μ : PH} {id ver o n c : Nat} {x : Bool} {b : PB} {l : List α} {s : List Sh} (h : IsL sh f b o n l) (hb : bk μ id ver = some b) (hc : clL (l.map f) = true) : sn μ s (.own id ver o n c x) = some (.sl sh (l.map f)) := by
  have := sn_own (s := s) (c := c) (x := x) hb h.el hc
  rw [h.sh_] at this; exact this
theorem IsL.tk {α : Type} {sh : List Sh} {f : α → DV} {μ : PH} {id ver o n c : Nat} {x : Bool} {b : PB} {l : List α} {s : Sh} (h : IsL sh f b o n l) (hb : bk μ id ver = some b) (hc : clL (l.map f) = true) : tkC μ s (.own id ver o n c x) = some (.sl sh (l.map f), kl μ id) := by
  have := tk_own (s := s) (c := c) (x := x) hb h.wh h.op h.el hc
  rw [h.sh_] at this; exact this
/-- what a fresh append is: nothing, or a block -/
def nwS (μ : PH) (z : Nat) (l : List DV) : DV := if l = [] then .e0 z else .own μ.length l.length 0 l.length l.length false
def nwM (μ : PH) (sh : List Sh) (l : List DV) : PH := if l = [] then μ else μ ++ [⟨l.length, sh, l, true, false, true⟩]
theorem qAp_nw {μ : PH} {sh : List Sh} {z by_ : Nat} {l : List DV} (hz : sh.length = z) (hf : flatL l = true) (hb : l.length * by_ ≤ 140737488355328) (hp : 0 < by_) (h1 : l.length ≤ 9223372036854775807) :
    qAp μ false sh z by_ (.e0 z) (.sl sh l) = some (nwS μ z l, nwM μ sh l) := by
  unfold nwS nwM
  by_cases h : l = []
  · subst h; simp only [if_true]; exact qAp_e0 hz hz
  · rw [if_neg h, if_neg h]; exact qAp_listM hz (List.length_pos_iff.2 h) hf hb hp h1
theorem s1_nw {α : Type} (μ : PH) (z : Nat) (l : List DV) (q : Option α) : s1 (nwS μ z l) q = q := by unfold nwS; split <;> rfl
theorem nwM_le (μ : PH) (sh : List Sh) (l : List DV) : μ.length ≤ (nwM μ sh l).length := by unfold nwM; split <;> simp
theorem nwM_old {μ : PH} {sh : List Sh} {l : List DV} {k : Nat} (h : k < μ.length) : (nwM μ sh l)[k]? = μ[k]? := by
  unfold nwM; split
  · rfl
  · exact List.getElem?_append_left h
/-- a fresh append, given away -/
theorem nw_tk {μ ν : PH} {sh : List Sh} {z : Nat} {l : List DV} (hz : sh.length = z) (hc : clL l = true) (hv : l ≠ [] → ν[μ.length]? = (nwM μ sh l)[μ.length]?) :
    ∃ ν', tkC ν (.sl sh) (nwS μ z l) = some (.sl sh l, ν') ∧ ∀ k, (l = [] ∨ k ≠ μ.length) → ν'[k]? = ν[k]? := by
  unfold nwS
  by_cases h : l = []
  · subst h
    exact ⟨ν, by simp [tkC, isSc, hz], fun k _ => rfl⟩
  · rw [if_neg h]
    have hb : bk ν μ.length l.length = some ⟨l.length, sh, l, true, false, true⟩ := by
      unfold bk; rw [hv h]; unfold nwM; rw [if_neg h]; simp
    exact ⟨_, tk_own (s := .sl sh) (c := l.length) (x := false) hb rfl rfl (by simp) hc, fun k hk => by
      rcases hk with hk | hk
      · exact absurd hk h
      · exact kl_gne (fun e => hk e.symm)⟩
/-- a fresh append of what a block shows -/
theorem qAp_nwO {μ : PH} {sh : List Sh} {z by_ id ver o n c : Nat} {x : Bool} {b : PB} {L : List DV} (hb : bk μ id ver = some b) (hbz : b.sh.length = z) (hL : (b.el.drop o).take n = L) (hz : sh.length = z) (hf : flatL L = true) (hy : L.length * by_ ≤ 140737488355328) (hp : 0 < by_) (h1 : L.length ≤ 9223372036854775807) :
    qAp μ false sh z by_ (.e0 z) (.own id ver o n c x) = some (nwS μ z L, nwM μ sh L) := by
  have he : elsOf μ z (.own id ver o n c x) = some L := by
    simp only [elsOf, hb, Option.bind_some, hL, hbz, hf, true_or, or_true, and_self, if_true]
  unfold nwS nwM
  by_cases h : L = []
  · subst h
    simp only [qAp, hz, if_true, he, Option.bind_some, List.length_nil, cond_true]
  · have hne : ¬ L.length = 0 := fun h0 => h (List.eq_nil_of_length_eq_zero h0)
    rw [if_neg h, if_neg h]
    simp only [qAp, he, hz, if_true, Option.bind_some, putEs, cond_false, hf, cond_true, hne, if_false, hy, hp, h1, and_self]
/-- two pieces, one behind the other, in new memory -/
theorem qAp_two {μ : PH} {sh : List Sh} {z by_ id ver o n c o2 n2 c2 : Nat} {x x2 : Bool} {b : PB} {L L2 : List DV} (hb : bk μ id ver = some b) (hsh : b.sh = sh) (hL : (b.el.drop o).take n = L) (hL2 : (b.el.drop o2).take n2 = L2) (hz : sh.length = z) (hf : flatL L = true) (hf2 : flatL L2 = true)
    (hy : (L.length + L2.length) * by_ ≤ 140737488355328) (hp : 0 < by_) (h1 : L.length + L2.length ≤ 9223372036854775807) :
    ∃ y M y2 M2, qAp μ false sh z by_ (.e0 z) (.own id ver o n c x) = some (y, M) ∧ qAp M false sh z by_ y (.own id ver o2 n2 c2 x2) = some (y2, M2) ∧ M.length ≥ μ.length ∧
      (∀ k ver, k < μ.length → bk M k ver = bk μ k ver) ∧
      ((L ++ L2 = [] ∧ y2 = .e0 z ∧ M2 = μ) ∨ (L ++ L2 ≠ [] ∧ ∃ v, y2 = .own μ.length v 0 (L ++ L2).length (L ++ L2).length false ∧ M2 = μ ++ [⟨v, sh, L ++ L2, true, false, true⟩])) := by
  have hy1 : L.length * by_ ≤ 140737488355328 := Nat.le_trans (Nat.mul_le_mul_right _ (Nat.le_add_right _ _)) hy
  have hy2 : L2.length * by_ ≤ 140737488355328 := Nat.le_trans (Nat.mul_le_mul_right _ (Nat.le_add_left _ _)) hy
  have ha := qAp_nwO (x := x) (c := c) hb (by rw [hsh]; exact hz) hL hz hf hy1 hp (by omega)
  have hid := bk_lt hb
  have hold : ∀ k v, k < μ.length → bk (nwM μ sh L) k v = bk μ k v := fun k v hk => by unfold bk; rw [nwM_old hk]
  by_cases h : L = []
  · subst h
    have hM : nwM μ sh [] = μ := rfl
    have h2 := qAp_nwO (x := x2) (c := c2) hb (by rw [hsh]; exact hz) hL2 hz hf2 hy2 hp (by omega)
    refine ⟨nwS μ z [], nwM μ sh [], nwS μ z L2, nwM μ sh L2, ha, h2, nwM_le _ _ _, hold, ?_⟩
    · by_cases hh : L2 = []
      · subst hh; exact .inl ⟨rfl, rfl, rfl⟩
      · refine .inr ⟨by simpa using hh, L2.length, ?_, ?_⟩
        · unfold nwS; rw [if_neg hh]; rfl
        · unfold nwM; rw [if_neg hh]; rfl
  · have hy0 : nwS μ z L = .own μ.length L.length 0 L.length L.length false := by unfold nwS; rw [if_neg h]
    have hM : nwM μ sh L = μ ++ [⟨L.length, sh, L, true, false, true⟩] := by unfold nwM; rw [if_neg h]
    rw [hy0] at ha
    have hb2 : bk (nwM μ sh L) id ver = some b := (hold _ _ hid).trans hb
    have hbn : bk (nwM μ sh L) μ.length L.length = some ⟨L.length, sh, L, true, false, true⟩ := by rw [hM]; simp [bk]
    have he : elsOf (nwM μ sh L) z (.own id ver o2 n2 c2 x2) = some L2 := by
      simp only [elsOf, hb2, Option.bind_some, hL2, hsh, hz, hf2, true_or, or_true, and_self, if_true]
    by_cases hh : L2 = []
    · subst hh
      refine ⟨_, _, .own μ.length L.length 0 L.length L.length false, nwM μ sh L, ha, ?_, nwM_le _ _ _, hold, .inr ⟨by simpa using h, L.length, ?_, ?_⟩⟩
      rotate_left
      · simp only [List.append_nil]
      · simp only [List.append_nil]; exact hM
      · simp only [qAp, hz, if_true, he, Option.bind_some, List.length_nil, hbn]
    · have hne : ¬ L2.length = 0 := fun h0 => hh (List.eq_nil_of_length_eq_zero h0)
      have hgt : ¬ L.length + L2.length ≤ L.length := by omega
      refine ⟨_, _, .own μ.length (L.length + L2.length) 0 (L.length + L2.length) (L.length + L2.length) false, (nwM μ sh L).set μ.length ⟨L.length + L2.length, sh, (L.drop 0).take L.length ++ L2, true, false, true⟩, ha, ?_, nwM_le _ _ _, hold, .inr ⟨by simp [h], L.length + L2.length, by rw [List.length_append], ?_⟩⟩
      · simp only [qAp, hz, if_true, he, Option.bind_some, hbn, hne, if_false, putEs, cond_false, hf2, cond_true, hgt, hy, hp, h1, and_self, Bool.false_eq_true]
      · rw [hM, List.drop_zero, List.take_length]
        simp
/-- several fresh appends, one behind the other -/
def nwL : PH → List (List Sh × List DV) → List DV × PH
  | μ, [] => ([], μ)
  | μ, (sh, l) :: r => (nwS μ sh.length l :: (nwL (nwM μ sh l) r).1, (nwL (nwM μ sh l) r).2)
theorem nwL_old : ∀ (r : List (List Sh × List DV)) (μ : PH) (k : Nat), k < μ.length → (nwL μ r).2[k]? = μ[k]?
  | [], μ, k, _ => rfl
  | (sh, l) :: r, μ, k, h => (nwL_old r (nwM μ sh l) k (Nat.lt_of_lt_of_le h (nwM_le μ sh l))).trans (nwM_old h)
/-- given away, one behind the other -/
inductive Tks : PH → List DV → List (List Sh × List DV) → PH → Prop where
  | nil (ν : PH) : Tks ν [] [] ν
  | cons {ν ν1 ν' : PH} {y : DV} {ys : List DV} {sh : List Sh} {l : List DV} {r : List (List Sh × List DV)} : tkC ν (.sl sh) y = some (.sl sh l, ν1) → Tks ν1 ys r ν' → Tks ν (y :: ys) ((sh, l) :: r) ν'
theorem nw_chain : ∀ (r : List (List Sh × List DV)) (μ ν : PH), (∀ p ∈ r, clL p.2 = true) → (∀ k, μ.length ≤ k → ν[k]? = (nwL μ r).2[k]?) → ∃ ν', Tks ν (nwL μ r).1 r ν'
  | [], μ, ν, _, _ => ⟨ν, .nil ν⟩
  | (sh, l) :: r, μ, ν, hc, hv => by
    have hM := nwM_le μ sh l
    have hlen : l ≠ [] → (nwM μ sh l).length = μ.length + 1 := fun h => by unfold nwM; rw [if_neg h]; simp
    obtain ⟨ν1, h1, h2⟩ := nw_tk (μ := μ) (ν := ν) (sh := sh) (z := sh.length) (l := l) rfl (hc (sh, l) List.mem_cons_self) fun hl => by
      rw [hv μ.length (Nat.le_refl _)]
      exact nwL_old r (nwM μ sh l) μ.length (by rw [hlen hl]; omega)
    obtain ⟨ν', h3⟩ := nw_chain r (nwM μ sh l) ν1 (fun p hp => hc p (List.mem_cons_of_mem _ hp)) fun k hk => by
      rw [h2 k]
      · exact hv k (Nat.le_trans hM hk)
      · by_cases hl : l = []
        · exact .inl hl
        · right; have := hlen hl; omega
    exact ⟨ν', .cons h1 h3⟩
end Go.Lg.Pv
