/- Operations, part 7: append, copy, clear, bytes and texts against the logical heap. -/
import Derived.Test.YtikafgoibpeagaaLgL
namespace Go.Lg
set_option linter.unusedVariables false
set_option linter.unusedSimpArgs false

section
variable {P : Program} {fr : Fr} {σ : LH} {π : Pl} {a : Act} {w : World}

theorem Rel.drew (h : Rel fr σ π a w) : Rel fr σ π a w.drew :=
  ⟨h.tm, h.sz, h.df, ⟨h.hr.cell, h.hr.ones, h.hr.own, h.hr.inj, h.hr.lt⟩, h.dom, h.mdom, h.rg, h.rg'⟩

theorem Rel.kill (h : Rel fr σ π a w) {b : Nat} {e : Tgt} (hk : π (.hp b) = some e) : Kept fr σ π a w fr.regs (σ.set b none) π w := by
  have hbn : b < σ.next := by
    rcases Nat.lt_or_ge b σ.next with h' | h'
    · exact h'
    · rw [h.dom b h'] at hk; cases hk
  refine ⟨⟨h.tm, h.sz, h.df, by rw [cm_set]; exact h.hr.kill _, h.dom, ?_, h.rg, h.rg'⟩, ⟨rfl, rfl, rfl, Nat.le_refl _, Nat.le_refl _, fun _ _ => rfl, fun _ _ _ => rfl, ?_, ?_, fun k e hk => .inl hk⟩, More'.refl _⟩
  · intro x hx
    have hxb : x ≠ b := by have : σ.next ≤ x := hx; omega
    simp only [LH.set, if_neg hxb]; exact h.mdom x hx
  · intro x hx hn
    rw [cm_set, upd_ne]
    intro he; cases he; rw [hk] at hn; cases hn
  · intro x blk2 hx hm
    rw [cm_set] at hm
    by_cases hxb : x = b
    · subst hxb; simp at hm
    · rw [upd_ne _ _ (by simpa using hxb)] at hm; exact ⟨blk2, hm, rfl, fun _ => rfl⟩

theorem Kept.trans (h : Rel fr σ π a w) {r1 r2 : List (Nat × List Value)} {σ1 σ2 : LH} {π1 π2 : Pl} {w1 w2 : World} (k1 : Kept fr σ π a w r1 σ1 π1 w1) (k2 : Kept ⟨fr.n, fr.tmps, r1⟩ σ1 π1 a w1 r2 σ2 π2 w2) :
    Kept fr σ π a w r2 σ2 π2 w2 := ⟨k2.1, k1.2.1.trans h.begin k2.2.1, fun k e he => k2.2.2 k e (k1.2.2 k e he)⟩

theorem Kept.drew (h : Rel fr σ π a w) {r1 : List (Nat × List Value)} {σ1 : LH} {π1 : Pl} {w1 : World} (k : Kept fr σ π a w.drew r1 σ1 π1 w1) : Kept fr σ π a w r1 σ1 π1 w1 :=
  ⟨k.1, ⟨k.2.1.os, k.2.1.tape, k.2.1.output, k.2.1.size, k.2.1.nxt, k.2.1.old, k.2.1.frame, k.2.1.lframe, k.2.1.wr, k.2.1.new⟩, k.2.2⟩

/-- a write, all of it -/
theorem Rel.write (h : Rel fr σ π a w) {b off : Nat} {e : Tgt} (hk : π (.hp b) = some e) {vs vs' : List Value} (hv : VRs π vs vs') (ho : Ones vs) {σ' : LH} (hw : σ.write b off vs = some σ') :
    ∃ w', (storeCells ⟨e.r, off + e.s, none⟩ vs').run P w = .ok () w' ∧ Kept fr σ π a w fr.regs σ' π w' := by
  unfold LH.write at hw
  split at hw
  · rename_i blk hb
    split at hw
    · rename_i hc
      cases hw
      obtain ⟨h1, arr, h2, h3, h4⟩ := h.hr.own (.hp b) e blk hk hb hc.1
      have hl := hv.len
      have hone : ∀ v ∈ vs', v.oneCell' = true := fun u hu => by
        obtain ⟨i, hi⟩ := List.getElem?_of_mem hu
        have hlt : i < vs.length := by
          rcases Nat.lt_or_ge i vs'.length with h' | h'
          · omega
          · rw [List.getElem?_eq_none h'] at hi; cases hi
        obtain ⟨u', g1, g2⟩ := hv.get (List.getElem?_eq_getElem hlt)
        rw [hi] at g1; cases g1
        exact g2.oneCell (ho _ (List.getElem_mem hlt))
      obtain ⟨w', r1, r2⟩ := run_storeRow P e.r (off + e.s) vs' 0 w arr h2 (by omega) hone
      have hh := h.hr.write hk hb hc.1 hc.2 hv ho h2 (by simpa using r2)
      obtain ⟨k1, k2⟩ := h.writeHp hk hb hc.1 (blk' := { blk with cells := over blk.cells off vs }) hc.1 hh r2
      exact ⟨w', r1, k1, k2, More'.refl _⟩
    · cases hw
  · cases hw

theorem VR.slc_inv {b o : Nat} {sp : Option Nat} {n c : Nat} {s' : Value} (h : VR π (.slice (some ⟨b, o, sp⟩) n c) s') :
    ∃ e o' c' z, sp = some z ∧ π (.hp b) = some e ∧ s' = .slice (some ⟨e.r, o', none⟩) n c' ∧ (0 < c / 2 → o' = o + e.s) ∧ c / 2 ≤ c' ∧ (c % 2 = 1 → c' = c / 2) ∧ n ≤ c / 2 ∧
      (e.full = true → 0 < c' → o' + c' * z ≤ e.n) := by
  cases h with
  | slc b o n c z o' c' e h h1 h2 h3 h4 h5 => exact ⟨e, o', c', z, rfl, h, rfl, h1, h2, h3, h4, h5⟩

theorem run_append_lg (h : Rel fr σ π a w) {T U e ty : Nat} {ti te : TI} {i ie : TypeInfo} {d de : TypeDesc} {z ze : Value} (hT : TIok P T ti i d z) (hs : ti.shape = .slice e) (hE : TIok P e te ie de ze)
    (hU : NoInt P U) {s s' x x' : Value} (hss : VR π s s') (hx : VR π x x') {r : Value × LH} (hr : pAp σ te.size te.bytes s x = some r) :
    ∃ v' w' π', (Builtin.append_ #[T, U] ty #[s', x']).run P w = .ok v' w' ∧ VR π' r.1 v' ∧ Kept fr σ π a w fr.regs r.2 π' w' := by
  have hd := shape_slice (hT.shape.trans hs)
  have hu : P.underlying T = some (.slice e) := by rw [hT.und, hd]
  have hzs : ze.cells.size = te.size := by
    have := hE.zlen; rw [← hE.cells] at this; simpa using this
  unfold pAp at hr
  replace hr := Option.bind_eq_some_iff.mp hr
  obtain ⟨m, hm, hr⟩ := hr
  replace hr := Option.bind_eq_some_iff.mp hr
  obtain ⟨news, hn, hr⟩ := hr
  obtain ⟨news', n1, n2, n3, n4⟩ := run_cellsOf (P := P) h hx hn hm (Nat.le_refl _)
  obtain ⟨newsD, d1, d2, d3, d4⟩ := run_cellsOf (P := P) h.drew hx hn hm (Nat.le_refl _)
  have hlen := run_lenOf (P := P) (w := w) hx hm
  rw [← hE.size] at n4 d4
  have hnl := n1.len
  have hdl := d1.len
  -- growing into a new row
  have grow : ∀ {fr1 : Fr} {σ1 : LH} (hR : Rel fr1 σ1 π a w) (b : Option Addr) (n c' : Nat) (olds olds' : List Value), VRs π olds olds' → Ones olds → olds.length = n * te.size →
      (Builtin.firstCells ie.size n (.slice b n c')).run P w.drew = .ok olds'.toArray w.drew → c' < n + m → n + m ≤ 9223372036854775807 → 0 < te.bytes → (n + m) * te.bytes ≤ 140737488355328 →
      ∃ v' w' π', (Builtin.append_ #[T, U] ty #[.slice b n c', x']).run P w = .ok v' w' ∧ VR π' (.slice (some ⟨σ1.next, 0, some te.size⟩) (n + m) (capL (n + m))) v' ∧
        Kept fr1 σ1 π a w fr1.regs (σ1.push { cells := olds ++ news }) π' w' := by
    intro fr1 σ1 hR b n c' olds olds' ho1 ho2 ho3 hof hg h63 hb0 hby
    have run := run_append_growL (ty := ty) hu hE.info hE.zero hU hlen hof d4 hg h63 (by rw [hE.bytes]; exact hb0) (by rw [hE.bytes]; exact hby)
    have hge := grownCap_need w (n + m) c' e
    have hol := ho1.len
    have hsz : (olds'.toArray ++ newsD.toArray ++ Builtin.zeroCells ze.cells (grownCap w (n + m) c' e - (n + m))).size = grownCap w (n + m) c' e * te.size := by
      simp only [Array.size_append, List.size_toArray, size_zeroCells, hzs]
      rw [← hol, ← hdl, ho3, n3, ← Nat.add_mul, ← Nat.add_mul]
      congr 1; omega
    obtain ⟨k1, k2, k3⟩ := hR.drew.pushHp (grown_alloc w.drew (olds'.toArray ++ newsD.toArray ++ Builtin.zeroCells ze.cells (grownCap w (n + m) c' e - (n + m))) e) (vs := olds ++ news)
      (fun v hv => by simp only [List.mem_append] at hv; exact hv.elim (ho2 v) (n2 v)) ⟨olds' ++ newsD, ho1.append d1, fun j v hj => by
        rw [Array.getElem?_append_left]
        · rw [← Array.getElem?_toList]; simpa using hj
        · have : j < (olds' ++ newsD).length := by
            rcases Nat.lt_or_ge j (olds' ++ newsD).length with h' | h'
            · exact h'
            · rw [List.getElem?_eq_none h'] at hj; cases hj
          simpa using this⟩
    refine ⟨_, _, _, run, ?_, Kept.drew hR ⟨k1, k2, k3⟩⟩
    exact slice_new (n + m) (capL (n + m)) _ te.size _ (by simp [capL]; omega) (by simp [capL]) (by simp [capL]) (fun _ => Nat.le_refl _) π w.drew σ1.next hsz
  split at hr
  · cases hss
    split at hr
    · rename_i h0
      subst h0
      cases hr
      exact ⟨.slice none 0 0, w, π, by rw [run_append_roomL hu hE.info hU hlen n4 (Nat.le_refl _)], .slcN, Kept.refl h⟩
    · rename_i h0
      split at hr
      · rename_i hc
        cases hr
        have g := grow h none 0 0 [] [] .nil (fun v hv => by simp at hv) (by simp) (by simp [Builtin.firstCells]) (by omega) (by omega) hc.2.1 (by simpa using hc.1)
        simpa using g
      · cases hr
  · rename_i ad n c
    obtain ⟨b, o, sp⟩ := ad
    obtain ⟨eT, o', c', z', rfl, hk, rfl, h1, h2, h3, h4, h5⟩ := hss.slc_inv
    · split at hr
      · rename_i hroom
        have hroom' : n + m ≤ c' := by omega
        have run := run_append_roomL (ty := ty) (b := some ⟨eT.r, o', none⟩) hu hE.info hU hlen n4 hroom'
        split at hr
        · rename_i h0
          subst h0
          cases hr
          have hnil : news' = [] := List.eq_nil_of_length_eq_zero (by rw [← hnl, n3]; simp)
          exact ⟨_, w, π, by rw [run, hnil]; simp [storeCells], .slc b o n c z' o' c' eT hk h1 h2 h3 h4 h5, Kept.refl h⟩
        · rename_i h0
          obtain ⟨σ', hw, he⟩ := Option.map_eq_some_iff.mp hr
          subst he
          obtain ⟨w', s1, s2⟩ := h.write (P := P) hk n1 n2 hw
          have ho : o' = o + eT.s := h1 (by omega)
          refine ⟨_, w', π, ?_, .slc b o (n + m) c z' o' c' eT hk h1 h2 h3 hroom h5, s2⟩
          rw [run]
          simp only [Addr.add_none, hE.size]
          rw [show o' + n * te.size = o + n * te.size + eT.s by omega, s1]
          rfl
      · rename_i hroom
        replace hr := Option.bind_eq_some_iff.mp hr
        obtain ⟨olds, ho, hr⟩ := hr
        obtain ⟨olds', o1, o2, o3, o4⟩ := run_cellsOf (P := P) h.drew (.slc b o n c z' o' c' eT hk h1 h2 h3 h4 h5) ho rfl (Nat.le_refl _)
        rw [← hE.size] at o4
        split at hr
        · rename_i hcnd
          obtain ⟨q1, q2, q3⟩ := hcnd
          split at hr
          · rename_i hex
            cases hr
            exact grow h _ n c' olds olds' o1 o2 o3 o4 (by rw [h3 hex]; omega) q3 q2 q1
          · rename_i hex
            split at hr
            · rename_i blk hb
              split at hr
              · rename_i hwr
                cases hr
                simp only at hb
                have kk := h.kill hk
                by_cases hfit : n + m ≤ c'
                · -- in its own place
                  have hz : z' = te.size := by simpa using hwr.2
                  subst hz
                  obtain ⟨g1, arr, g2, g3, g4⟩ := h.hr.own (.hp b) eT blk hk hb hwr.1
                  have hc0 : 0 < c' := by omega
                  have hrow := h5 g1 hc0
                  have hmul : n * te.size + m * te.size ≤ c' * te.size := by rw [← Nat.add_mul]; exact Nat.mul_le_mul_right _ hfit
                  have hone : ∀ v ∈ news', v.oneCell' = true := fun u hu => by
                    obtain ⟨i, hi⟩ := List.getElem?_of_mem hu
                    have hlt : i < news.length := by
                      rcases Nat.lt_or_ge i news'.length with h' | h'
                      · omega
                      · rw [List.getElem?_eq_none h'] at hi; cases hi
                    obtain ⟨u', t1, t2⟩ := n1.get (List.getElem?_eq_getElem hlt)
                    rw [hi] at t1; cases t1
                    exact t2.oneCell (n2 _ (List.getElem_mem hlt))
                  obtain ⟨w', r1, r2⟩ := run_storeRow P eT.r (o' + n * te.size) news' 0 w arr g2 (by omega) hone
                  have run := run_append_roomL (ty := ty) (b := some ⟨eT.r, o', none⟩) hu hE.info hU hlen n4 hfit
                  have hcell : ∀ (j : Nat) v, olds'[j]? = some v → arr[o' + j]? = some v := by
                    intro j v hj
                    by_cases hn0 : n = 0
                    · subst hn0
                      have : olds' = [] := List.eq_nil_of_length_eq_zero (by rw [← o1.len, o3]; simp)
                      rw [this] at hj; simp at hj
                    · simp only [cellsOf, if_neg hn0, hb] at ho
                      split at ho
                      · rename_i hfits
                        cases ho
                        have hjl : j < n * te.size := by
                          have := o1.len
                          rw [o3] at this
                          rcases Nat.lt_or_ge j olds'.length with h' | h'
                          · omega
                          · rw [List.getElem?_eq_none h'] at hj; cases hj
                        have hlt : j < ((blk.cells.drop o).take (n * te.size)).length := by rw [o3]; exact hjl
                        obtain ⟨l', t1, t2, t3⟩ := h.hr.list (k := .hp b) hk hb o (n * te.size) hfits
                        have hsame : olds'.toArray = l'.toArray := by
                          have u1 := run_loadCells_list (P := P) w.drew ⟨eT.r, o', none⟩ l' fun j v hj => by
                            rw [Addr.add_none, h1 (by omega)]; exact t3 j v hj
                          have u2 : (Builtin.firstCells ie.size n (.slice (some ⟨eT.r, o', none⟩) n c')).run P w.drew = .ok l'.toArray w.drew := by
                            simp only [Builtin.firstCells, hE.size, ← t2, u1]
                          rw [o4] at u2
                          injection u2
                        have hsame' : olds' = l' := by simpa using hsame
                        rw [hsame'] at hj
                        have := t3 j v hj
                        rw [← g2.cell, ← this, h1 (by omega)]
                      · cases ho
                  have hh := h.hr.regrow (b := .hp b) hk hb hwr.1 (h.dom σ.next (Nat.le_refl _)) g2 o1 n1 o2 n2 hcell (by rw [o3, n3]; omega) (by rw [o3]; simpa using r2)
                  have hbn : b < σ.next := by
                    rcases Nat.lt_or_ge b σ.next with h' | h'
                    · exact h'
                    · rw [h.dom b h'] at hk; cases hk
                  have hcm : cm fr.regs ((σ.set b none).push { cells := olds ++ news }).mem = upd (upd (cm fr.regs σ.mem) (.hp b) none) (.hp σ.next) (some ⟨olds ++ news, true⟩) := by
                    rw [cm_push, cm_set]; rfl
                  have hmr : More' π (upd π (.hp σ.next) (some ⟨eT.r, o', arr.size, true⟩)) := fun j e1 hj => by
                    rw [upd_ne]; exact hj
                    intro he; rw [he, h.dom σ.next (Nat.le_refl _)] at hj; cases hj
                  refine ⟨.slice (some ⟨eT.r, o', none⟩) (n + m) c', w', upd π (.hp σ.next) (some ⟨eT.r, o', arr.size, true⟩), ?_, ?_, ⟨fun t y ht => (h.tm t y ht).mono hmr, h.sz, h.df, by rw [hcm]; exact hh, ?_, ?_, ?_, ?_⟩, ⟨r2.os, r2.tape, r2.output, by rw [r2.size]; exact Nat.le_refl _, Nat.le_succ _, ?_, ?_, ?_, ?_, ?_⟩, hmr⟩
                  · rw [run]
                    simp only [Addr.add_none, hE.size, r1]
                    rfl
                  · refine .slc σ.next 0 (n + m) _ te.size o' c' ⟨eT.r, o', arr.size, true⟩ (upd_same _ _ _) (fun _ => by simp) (by simp [capL]; omega) (by simp [capL]) (by simp [capL]) (fun _ _ => by simp only; omega)
                  · intro x hx
                    have hx' : σ.next + 1 ≤ x := hx
                    rw [upd_ne _ _ (by simp; omega)]; exact h.dom x (by omega)
                  · intro x hx
                    have hx' : σ.next + 1 ≤ x := hx
                    have e1 : x ≠ σ.next := by omega
                    have e2 : x ≠ b := by omega
                    show (if x = σ.next then some _ else if x = b then none else σ.mem x) = none
                    rw [if_neg e1, if_neg e2]; exact h.mdom x (by omega)
                  · intro t e1 ht; rw [upd_ne _ _ (by simp)] at ht; exact h.rg t e1 ht
                  · intro t cs ht; rw [upd_ne _ _ (by simp)]; exact h.rg' t cs ht
                  · intro x hx; rw [upd_ne _ _ (by simp; omega)]
                  · intro rr hrr hun
                    refine r2.other rr fun he => ?_
                    subst he
                    have := hun (.hp b) eT blk hk hb rfl
                    rw [hwr.1] at this; cases this
                  · intro x hx hnn
                    rw [hcm, upd_ne _ _ (by simp; omega), upd_ne]
                    intro he; cases he; rw [hk] at hnn; cases hnn
                  · intro x blk2 hx hm2
                    rw [hcm, upd_ne _ _ (by simp; omega)] at hm2
                    by_cases hxb : x = b
                    · subst hxb; simp at hm2
                    · rw [upd_ne _ _ (by simpa using hxb)] at hm2; exact ⟨blk2, hm2, rfl, fun _ => rfl⟩
                  · intro k e1 hk1
                    by_cases hkn : k = .hp σ.next
                    · subst hkn
                      simp only [upd_same, Option.some.injEq] at hk1; subst hk1
                      exact .inr (.inr ⟨.hp b, eT, blk, hk, hb, hwr.1, rfl⟩)
                    · rw [upd_ne _ _ hkn] at hk1; exact .inl hk1
                · obtain ⟨v', w', π', t1, t2, t3⟩ := grow kk.1 (some ⟨eT.r, o', none⟩) n c' olds olds' o1 o2 o3 o4 (by omega) q3 q2 q1
                  exact ⟨v', w', π', t1, t2, Kept.trans h kk t3⟩
              · cases hr
            · cases hr
        · cases hr
  · cases hr

theorem run_copy_lg (h : Rel fr σ π a w) {T e ty : Nat} {ts : List Nat} {ti te : TI} {i ie : TypeInfo} {d de : TypeDesc} {z ze : Value} (hT : TIok P T ti i d z) (hs : ti.shape = .slice e) (hE : TIok P e te ie de ze)
    {s s' x x' : Value} (hss : VR π s s') (hx : VR π x x') {r : Value × LH} (hr : pCp σ te.size s x = some r) :
    ∃ v' w', (Builtin.copy_ (T :: ts).toArray ty #[s', x']).run P w = .ok v' w' ∧ VR π r.1 v' ∧ Kept fr σ π a w fr.regs r.2 π w' := by
  have hd := shape_slice (hT.shape.trans hs)
  have hu : P.underlying T = some (.slice e) := by rw [hT.und, hd]
  unfold pCp at hr
  replace hr := Option.bind_eq_some_iff.mp hr
  obtain ⟨m, hm, hr⟩ := hr
  have hlen := run_lenOf (P := P) (w := w) hx hm
  split at hr
  · replace hr := Option.bind_eq_some_iff.mp hr
    obtain ⟨cs, hcs, hr⟩ := hr
    cases hr
    cases hss
    obtain ⟨cs', n1, n2, n3, n4⟩ := run_cellsOf (P := P) h hx hcs hm (Nat.zero_le _)
    rw [← hE.size] at n4
    exact ⟨.int .i64 0, w, by simp [Builtin.copy_, run_underlying hu, hlen, sizeOf, typeInfo, hE.info, n4, goInt], .int _ _, Kept.refl h⟩
  · rename_i ad n c
    obtain ⟨b, o, sp⟩ := ad
    obtain ⟨eT, o', c', z', rfl, hk, rfl, h1, h2, h3, h4, h5⟩ := hss.slc_inv
    replace hr := Option.bind_eq_some_iff.mp hr
    obtain ⟨cs, hcs, hr⟩ := hr
    obtain ⟨cs', n1, n2, n3, n4⟩ := run_cellsOf (P := P) h hx hcs hm (Nat.min_le_left _ _)
    rw [← hE.size] at n4
    have base : (Builtin.copy_ (T :: ts).toArray ty #[.slice (some ⟨eT.r, o', none⟩) n c', x']).run P w =
        ((storeCells ⟨eT.r, o', none⟩ cs').run P w).andThen fun _ w' => .ok (.int .i64 (min m n : Nat)) w' := by
      simp [Builtin.copy_, run_underlying hu, hlen, sizeOf, typeInfo, hE.info, n4, goInt]
    split at hr
    · rename_i h0
      cases hr
      have hnil : cs' = [] := List.eq_nil_of_length_eq_zero (by rw [← n1.len, n3, h0]; simp)
      exact ⟨.int .i64 0, w, by rw [base, hnil, h0]; simp [storeCells], .int _ _, Kept.refl h⟩
    · rename_i h0
      obtain ⟨σ', hw, he⟩ := Option.map_eq_some_iff.mp hr
      subst he
      obtain ⟨w', s1, s2⟩ := h.write (P := P) hk n1 n2 hw
      have ho : o' = o + eT.s := h1 (by omega)
      exact ⟨_, w', by rw [base, ho, s1]; rfl, .int _ _, s2⟩
  · cases hr

theorem run_clear_lg (h : Rel fr σ π a w) {T e ty : Nat} {ti te : TI} {i ie : TypeInfo} {d de : TypeDesc} {z ze : Value} (hT : TIok P T ti i d z) (hs : ti.shape = .slice e) (hE : TIok P e te ie de ze)
    {x x' : Value} (hx : VR π x x') {σ' : LH} (hr : pClr σ te.zero x = some σ') :
    ∃ w', (Builtin.clear_ #[T] ty #[x']).run P w = .ok (.tuple #[]) w' ∧ Kept fr σ π a w fr.regs σ' π w' := by
  have hd := shape_slice (hT.shape.trans hs)
  have hu : P.underlying T = some (.slice e) := by rw [hT.und, hd]
  have hz0 : 0 < ze.cells.size := by
    have := hE.zlen; rw [← hE.cells] at this; have := hE.pos; simp at *; omega
  unfold pClr at hr
  split at hr
  · cases hr; cases hx
    exact ⟨w, by simp [Builtin.clear_, run_underlying hu], Kept.refl h⟩
  · rename_i ad n c
    obtain ⟨b, o, sp⟩ := ad
    obtain ⟨eT, o', c', z', rfl, hk, rfl, h1, h2, h3, h4, h5⟩ := hx.slc_inv
    split at hr
    · rename_i h0; subst h0; cases hr
      exact ⟨w, by simp [Builtin.clear_, run_underlying hu], Kept.refl h⟩
    · rename_i h0
      obtain ⟨z1, z2⟩ := zeros_const π hE.zconst n
      obtain ⟨w', s1, s2⟩ := h.write (P := P) hk z1 z2 hr
      have ho : o' = o + eT.s := h1 (by omega)
      have hzc : (Builtin.zeroCells ze.cells n).toList = zeros te.zero n := by
        have := zeros_made ze.cells hz0 n
        rw [hE.cells] at this
        rw [← this]; rfl
      refine ⟨w', ?_, s2⟩
      obtain ⟨n, rfl⟩ : ∃ k, n = k + 1 := ⟨n - 1, by omega⟩
      simp [Builtin.clear_, run_underlying hu, zeroValue, typeInfo, hE.info, hE.zero, hzc, ho, s1]
  · cases hr
end
end Go.Lg
