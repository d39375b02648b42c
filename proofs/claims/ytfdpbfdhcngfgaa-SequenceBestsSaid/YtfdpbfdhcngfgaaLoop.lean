/- A loop's head comes again. -/
import Derived.Test.YtfdpbfdhcngfgaaFrame
namespace Go.Proofs.Ytfdpbfdhcngfgaa
open Go.RowKit
set_option linter.unusedVariables false
set_option linter.unusedSimpArgs false
theorem slotsV_get {σ : DS} : ∀ {l : List Nat} {as0 : List AV}, σ.slotsV l = some as0 → as0.length = l.length ∧ ∀ (k t : Nat), l[k]? = some t → ∃ x, as0[k]? = some x ∧ plain1 σ.fview (σ.tm.getD t .any) = some x
  | [], as0, h => by
    simp only [DS.slotsV, Option.some.injEq] at h
    subst h
    exact ⟨rfl, fun k t hk => by simp at hk⟩
  | t :: l, as0, h => by
    simp only [DS.slotsV] at h
    split at h
    · rename_i x xs h1 h2
      simp only [Option.some.injEq] at h
      subst h
      obtain ⟨e1, e2⟩ := slotsV_get h2
      refine ⟨by simp [e1], fun k t' hk => ?_⟩
      cases k with
      | zero =>
        simp only [List.getElem?_cons_zero, Option.some.injEq] at hk
        subst hk
        exact ⟨x, rfl, h1⟩
      | succ k =>
        obtain ⟨x', q1, q2⟩ := e2 k t' (by simpa using hk)
        exact ⟨x', by simpa using q1, q2⟩
    · cases h
theorem rowsV_get {σ : DS} : ∀ {l : List Nat} {as0 : List AV}, σ.rowsV l = some as0 → as0.length = l.length ∧ ∀ (k b : Nat), l[k]? = some b → ∃ e s n x, as0[k]? = some x ∧ σ.blk b = .row e s n x
  | [], as0, h => by
    simp only [DS.rowsV, Option.some.injEq] at h
    subst h
    exact ⟨rfl, fun k t hk => by simp at hk⟩
  | b :: l, as0, h => by
    simp only [DS.rowsV] at h
    split at h
    · rename_i e s n x xs h1 h2
      simp only [Option.some.injEq] at h
      subst h
      obtain ⟨e1, e2⟩ := rowsV_get h2
      refine ⟨by simp [e1], fun k t' hk => ?_⟩
      cases k with
      | zero =>
        simp only [List.getElem?_cons_zero, Option.some.injEq] at hk
        subst hk
        exact ⟨e, s, n, x, rfl, h1⟩
      | succ k =>
        obtain ⟨e', s', n', x', q1, q2⟩ := e2 k t' (by simpa using hk)
        exact ⟨e', s', n', x', by simpa using q1, q2⟩
    · cases h
theorem cellsV_get {σ : DS} : ∀ {l : List (Nat × Nat)} {as0 : List AV}, σ.cellsV l = some as0 → as0.length = l.length ∧ ∀ (k b o : Nat), l[k]? = some (b, o) → ∃ x t cs d, as0[k]? = some x ∧ σ.blk b = .cells t cs ∧ cs[o]? = some d ∧ plain1 σ.fview d = some x
  | [], as0, h => by
    simp only [DS.cellsV, Option.some.injEq] at h
    subst h
    exact ⟨rfl, fun k b o hk => by simp at hk⟩
  | (b, o) :: l, as0, h => by
    simp only [DS.cellsV] at h
    split at h
    · rename_i t cs h0
      split at h
      · rename_i d hd
        split at h
        · rename_i x xs h1 h2
          simp only [Option.some.injEq] at h
          subst h
          obtain ⟨e1, e2⟩ := cellsV_get h2
          refine ⟨by simp [e1], fun k b' o' hk => ?_⟩
          cases k with
          | zero =>
            simp only [List.getElem?_cons_zero, Option.some.injEq, Prod.mk.injEq] at hk
            obtain ⟨rfl, rfl⟩ := hk
            exact ⟨x, t, cs, d, rfl, h0, hd, h1⟩
          | succ k =>
            obtain ⟨x', t', cs', d', q1, q2⟩ := e2 k b' o' (by simpa using hk)
            exact ⟨x', t', cs', d', by simpa using q1, q2⟩
        · cases h
      · cases h
    · cases h
theorem head_blk (A : LoopAnn) (σ : DS) (ys : List AV) (b : Nat) : (A.head σ ys).blk b = if b ∈ A.touched then A.blkOf ys b (σ.blk b) else σ.blk b := by
  have h1 : (A.head σ ys).blk = updB σ.blk (A.touched.map fun b => (b, A.blkOf ys b (σ.blk b))) := by
    unfold LoopAnn.head
    exact blk_app σ _ _ _ _
  rw [h1]
  by_cases hb : b ∈ A.touched
  · rw [if_pos hb]
    unfold updB
    cases hf : (A.touched.map fun b => (b, A.blkOf ys b (σ.blk b))).find? (·.1 == b) with
    | none =>
      have := List.find?_eq_none.1 hf (b, A.blkOf ys b (σ.blk b)) (List.mem_map.2 ⟨b, hb, rfl⟩)
      simp at this
    | some q =>
      have e1 : q.1 = b := by simpa using List.find?_some hf
      obtain ⟨b', _, e2⟩ := List.mem_map.1 (List.mem_of_find?_eq_some hf)
      rw [← e2] at e1
      simp only at e1
      subst e1
      rw [← e2]
  · rw [if_neg hb]
    exact updB_of_not (by
      intro hm
      obtain ⟨q, hq, e⟩ := List.mem_map.1 hm
      obtain ⟨b', hb', e2⟩ := List.mem_map.1 hq
      rw [← e2] at e
      exact hb (e ▸ hb'))
theorem blkOf_dead {A : LoopAnn} {ys : List AV} {b : Nat} {d : DB} : isDead (A.blkOf ys b d) = isDead d ∧ isLive (A.blkOf ys b d) = isLive d ∧ stampOf (A.blkOf ys b d) = stampOf d := by
  unfold LoopAnn.blkOf
  cases d with
  | row e s n x => simp only; split <;> exact ⟨rfl, rfl, rfl⟩
  | _ => exact ⟨rfl, rfl, rfl⟩
theorem head_blk_is (A : LoopAnn) (σ : DS) (ys : List AV) (b : Nat) : isDead ((A.head σ ys).blk b) = isDead (σ.blk b) ∧ isLive ((A.head σ ys).blk b) = isLive (σ.blk b) ∧ stampOf ((A.head σ ys).blk b) = stampOf (σ.blk b) := by
  rw [head_blk]
  split
  · exact blkOf_dead
  · exact ⟨rfl, rfl, rfl⟩
theorem blk_dead {σ : DS} {b : Nat} (h : b ∉ σ.bl.map (·.1)) : σ.blk b = .dead := by
  unfold DS.blk
  cases hf : σ.bl.find? (·.1 == b) with
  | none => rfl
  | some q =>
    have e1 : q.1 = b := by simpa using List.find?_some hf
    exact absurd (List.mem_map.2 ⟨q, List.mem_of_find?_eq_some hf, e1⟩) h
theorem live_notDead {d : DB} (h : isLive d = true) : isDead d = false := by cases d <;> first | rfl | cases h
theorem stamp_notDead {d : DB} {n : Nat} (h : stampOf d = some n) : isDead d = false := by cases d <;> first | rfl | cases h
section
variable {base : Nat} {w0 : World} {ok0 : Nat → Prop}
/-- **The head comes again.** -/
theorem head_again {A : LoopAnn} {W : List Nat} {σ σ' : DS} (hc : chk A W σ σ' = true) (hb : FrB σ σ') (ht : FrT W σ σ') {zs : List AV} (hz : A.vals σ' = some zs) {ρ : Nat → Value} {a : Act} {w : World} (h : HS base w0 ok0 σ' ρ a w) : ∃ ρ', HS base w0 ok0 (A.head σ zs) ρ' a w := by
  obtain ⟨⟨pre, hpre⟩, htl, hclk⟩ := hb
  have hpreOf : preOf σ σ' = pre.map (·.1) := by
    unfold preOf
    rw [hpre, List.length_append, Nat.add_sub_cancel, List.take_left]
  have hblk' : ∀ b, b ∉ preOf σ σ' → σ'.blk b = σ.blk b := fun b hb => by
    have : σ'.blk = updB σ.blk pre := by
      obtain ⟨tm, bl, c, oc⟩ := σ'
      simp only at hpre
      subst hpre
      exact blk_app σ pre tm c _
    rw [this]
    exact updB_of_not (hpreOf ▸ hb)
  unfold chk at hc
  rw [Bool.and_eq_true, Bool.and_eq_true, Bool.and_eq_true] at hc
  obtain ⟨⟨⟨c1, c2⟩, c3⟩, c4⟩ := hc
  have c1' : ∀ t, t < σ.tm.length → slotOk A W σ σ' t = true := fun t htl => List.all_eq_true.1 c1 t (by simpa using htl)
  have c2' : ∀ b, σ.blk b ≠ .dead → blkOk A (preOf σ σ') σ σ' b = true := fun b hb => List.all_eq_true.1 c2 b (List.mem_append_left _ (Classical.byContradiction fun hn => hb (blk_dead hn)))
  have c3' : ∀ b, σ.blk b ≠ .dead → b < σ.clk := fun b hb => by
    have hm : b ∈ σ.bl.map (·.1) := Classical.byContradiction fun hn => hb (blk_dead hn)
    exact of_decide_eq_true (List.all_eq_true.1 c3 b hm)
  have hdd : ∀ d : DB, isDead d = false → d ≠ .dead := fun d hd e => by rw [e] at hd; cases hd
  unfold LoopAnn.vals at hz
  split at hz
  · rename_i as0 bs cs0 hv1 hv2 hv3
    simp only [Option.some.injEq] at hz
    subst hz
    obtain ⟨l1, g1⟩ := slotsV_get hv1
    obtain ⟨l2, g2⟩ := rowsV_get hv2
    obtain ⟨l3, g3⟩ := cellsV_get hv3
    have idx1 : ∀ k t, A.vs.idxOf? t = some k → ∃ x, ((as0 ++ bs ++ cs0).getD k default) = x ∧ plain1 σ'.fview (σ'.tm.getD t .any) = some x := fun k t hk => by
      obtain ⟨x, q1, q2⟩ := g1 k t (by
        have := List.findIdx?_eq_some_iff_getElem.1 hk
        obtain ⟨hkl, e, _⟩ := this
        rw [List.getElem?_eq_getElem hkl]
        simpa using e)
      have hkl : k < as0.length := (List.getElem?_eq_some_iff.1 q1).1
      refine ⟨x, ?_, q2⟩
      rw [List.append_assoc, List.getD_eq_getElem?_getD, List.getElem?_append_left hkl, q1]; rfl
    have idx2 : ∀ k b, A.rows.idxOf? b = some k → ∃ e s n x, ((as0 ++ bs ++ cs0).getD (A.vs.length + k) default) = x ∧ σ'.blk b = .row e s n x := fun k b hk => by
      obtain ⟨e, s, n, x, q1, q2⟩ := g2 k b (by
        have := List.findIdx?_eq_some_iff_getElem.1 hk
        obtain ⟨hkl, e, _⟩ := this
        rw [List.getElem?_eq_getElem hkl]
        simpa using e)
      have hkl : k < bs.length := (List.getElem?_eq_some_iff.1 q1).1
      refine ⟨e, s, n, x, ?_, q2⟩
      rw [List.append_assoc, List.getD_eq_getElem?_getD, List.getElem?_append_right (by omega), List.getElem?_append_left (by omega)]
      rw [show A.vs.length + k - as0.length = k by omega, q1]; rfl
    have idx3 : ∀ k b o, A.cells.idxOf? (b, o) = some k → ∃ x t cs d, ((as0 ++ bs ++ cs0).getD (A.vs.length + A.rows.length + k) default) = x ∧ σ'.blk b = .cells t cs ∧ cs[o]? = some d ∧ plain1 σ'.fview d = some x := fun k b o hk => by
      obtain ⟨x, t, cs, d, q1, q2⟩ := g3 k b o (by
        have := List.findIdx?_eq_some_iff_getElem.1 hk
        obtain ⟨hkl, e, _⟩ := this
        rw [List.getElem?_eq_getElem hkl]
        simpa using e)
      have hkl : k < cs0.length := (List.getElem?_eq_some_iff.1 q1).1
      refine ⟨x, t, cs, d, ?_, q2⟩
      rw [List.getD_eq_getElem?_getD, List.getElem?_append_right (by simp; omega)]
      rw [show A.vs.length + A.rows.length + k - (as0 ++ bs).length = k by simp; omega, q1]; rfl
    generalize hzs : as0 ++ bs ++ cs0 = zs at *
    have hH : ∀ b, isDead ((A.head σ zs).blk b) = isDead (σ.blk b) ∧ isLive ((A.head σ zs).blk b) = isLive (σ.blk b) ∧ stampOf ((A.head σ zs).blk b) = stampOf (σ.blk b) := head_blk_is A σ zs
    -- what lives at the head lives here
    have hlive : ∀ b, isLive (σ.blk b) = true → isLive (σ'.blk b) = true := fun b hl => by
      have hk := c2' b (hdd _ (live_notDead hl))
      unfold blkOk at hk
      split at hk
      · split at hk
        · rename_i q; rw [q]; rfl
        · cases hk
      · split at hk
        · split at hk
          · rename_i q; rw [q]; rfl
          · exfalso; simp_all [isLive]
          · cases hk
        · rename_i hp
          rw [hblk' b (by simpa using hp)]; exact hl
    let ρ' : Nat → Value := fun b => if isDead (σ.blk b) then undef else ρ b
    have hρ' : ∀ b, isDead (σ.blk b) = false → ρ' b = ρ b := fun b hd => by show (if isDead (σ.blk b) then undef else ρ b) = ρ b; rw [hd]; rfl
    have okm : ∀ g, okF base ok0 σ'.blk ρ g → g < w.heap.size → okF base ok0 (A.head σ zs).blk ρ' g ∧ w.heap[g]? = w.heap[g]? := fun g hg _ => ⟨⟨hg.1, fun b hl => by
      rw [(hH b).2.1] at hl
      rw [hρ' b (live_notDead hl)]
      exact hg.2 b (hlive b hl)⟩, rfl⟩
    have plainRV : ∀ d v x, RD w (okF base ok0 σ'.blk ρ) ρ σ'.blk (fun n => n < σ'.clk) d v → plain1 σ'.fview d = some x → RV w (okF base ok0 (A.head σ zs).blk ρ') x v := fun d v x hd hp => by
      unfold plain1 at hp
      split at hp
      · rename_i y hy
        simp only [Option.some.injEq] at hp
        subst hp
        exact (pc_ok' (fview_ok σ') h hd hy).mono okm
      · cases hp
    have lift0 : ∀ d v, RD w (okF base ok0 σ'.blk ρ) ρ σ'.blk (fun n => n < σ'.clk) d v → ref0 σ σ' d = true → RD w (okF base ok0 (A.head σ zs).blk ρ') ρ' (A.head σ zs).blk (fun n => n < σ.clk) d v := fun d v hd hr => by
      cases hd with
      | any => exact .any _
      | v x _ hv => exact .v _ _ (hv.mono okm)
      | c => exact .c _
      | nil => exact .nil
      | ptr b o g hg => exact .ptr b o g ((hρ' b (by simpa [ref0] using hr)).trans hg)
      | sp b o ix g hg => exact .sp b o ix g ((hρ' b (by simpa [ref0] using hr)).trans hg)
      | ip x i s j g off m c h1 h2 h3 => exact .ip x i s j g off m c h1 (h2.mono okm) h3
      | row b n _ hn h1 hs =>
        simp only [ref0, Bool.and_eq_true, decide_eq_true_eq, Bool.or_eq_true, bne_iff_ne, beq_iff_eq] at hr
        refine .row b n v hr.1 h1 fun hst => ?_
        rw [(hH b).2.2] at hst
        rw [hρ' b (stamp_notDead hst)]
        exact hs (hr.2.resolve_left fun q => q hst)
      | rp b n s i j _ hn h1 hs =>
        simp only [ref0, Bool.and_eq_true, decide_eq_true_eq, Bool.or_eq_true, bne_iff_ne, beq_iff_eq] at hr
        refine .rp b n s i j v hr.1 h1 fun hst => ?_
        rw [(hH b).2.2] at hst
        rw [hρ' b (stamp_notDead hst)]
        exact hs (hr.2.resolve_left fun q => q hst)
      | rt b n s l _ hn h1 hs =>
        simp only [ref0, Bool.and_eq_true, decide_eq_true_eq, Bool.or_eq_true, bne_iff_ne, beq_iff_eq] at hr
        refine .rt b n s l v hr.1 h1 fun hst => ?_
        rw [(hH b).2.2] at hst
        rw [hρ' b (stamp_notDead hst)]
        exact hs (hr.2.resolve_left fun q => q hst)
      | gp x m o ix g hx h => exact .gp x m o ix g hx (h.mono okm)
      | agg => cases hr
      | tup => cases hr
      | fn => cases hr
    have lift1 : ∀ d v, RD w (okF base ok0 σ'.blk ρ) ρ σ'.blk (fun n => n < σ'.clk) d v → ref1 σ σ' d = true → RD w (okF base ok0 (A.head σ zs).blk ρ') ρ' (A.head σ zs).blk (fun n => n < σ.clk) d v := fun d v hd hr => by
      have hall : ∀ cs : List DE, cs.all (ref0 σ σ') = true → ∀ i, i < cs.length → ref0 σ σ' (cs.getD i .any) = true := fun cs hall i hi => by
        rw [List.getD_eq_getElem?_getD, List.getElem?_eq_getElem hi]
        exact List.all_eq_true.1 hall _ (List.getElem_mem hi)
      cases d with
      | agg cs =>
        cases hd with
        | agg _ vs h1 h2 h3 => exact .agg cs vs h1 h2 fun i hi => lift0 _ _ (h3 i hi) (hall cs hr i hi)
      | fn f cs =>
        cases hd with
        | fn _ _ vs h1 h3 => exact .fn f cs vs h1 fun i hi => lift0 _ _ (h3 i hi) (hall cs hr i hi)
      | _ => exact lift0 _ v hd hr
    have lift2 : ∀ d v, RD w (okF base ok0 σ'.blk ρ) ρ σ'.blk (fun n => n < σ'.clk) d v → ref2 σ σ' d = true → RD w (okF base ok0 (A.head σ zs).blk ρ') ρ' (A.head σ zs).blk (fun n => n < σ.clk) d v := fun d v hd hr => by
      have hall : ∀ cs : List DE, cs.all (ref1 σ σ') = true → ∀ i, i < cs.length → ref1 σ σ' (cs.getD i .any) = true := fun cs hall i hi => by
        rw [List.getD_eq_getElem?_getD, List.getElem?_eq_getElem hi]
        exact List.all_eq_true.1 hall _ (List.getElem_mem hi)
      cases d with
      | agg cs =>
        cases hd with
        | agg _ vs h1 h2 h3 => exact .agg cs vs h1 h2 fun i hi => lift1 _ _ (h3 i hi) (hall cs hr i hi)
      | tup cs =>
        cases hd with
        | tup _ vs h1 h3 => exact .tup cs vs h1 fun i hi => lift1 _ _ (h3 i hi) (hall cs hr i hi)
      | fn f cs =>
        cases hd with
        | fn _ _ vs h1 h3 => exact .fn f cs vs h1 fun i hi => lift1 _ _ (h3 i hi) (hall cs hr i hi)
      | _ => exact lift0 _ v hd hr
    have liftR : ∀ d d' v, RD w (okF base ok0 σ'.blk ρ) ρ σ'.blk (fun n => n < σ'.clk) d' v → sameRow σ σ' d d' = true → RD w (okF base ok0 (A.head σ zs).blk ρ') ρ' (A.head σ zs).blk (fun n => n < σ.clk) d v := fun d d' v hd hr => by
      unfold sameRow at hr
      split at hr
      · rename_i b n b' n'
        simp only [Bool.and_eq_true, beq_iff_eq, decide_eq_true_eq] at hr
        obtain ⟨⟨⟨rfl, hn⟩, hs1⟩, hs2⟩ := hr
        cases hd with
        | row _ _ _ hn' h1 hs =>
          refine .row b n v hn h1 fun _ => ?_
          rw [hρ' b (stamp_notDead hs1)]
          exact hs hs2
      · rename_i b o b' o'
        simp only [Bool.and_eq_true, beq_iff_eq, Bool.not_eq_true'] at hr
        obtain ⟨⟨rfl, rfl⟩, hd1⟩ := hr
        cases hd with
        | ptr _ _ g hg => exact .ptr b o g ((hρ' b hd1).trans hg)
      · exact .any _
      · cases hr
    refine ⟨ρ', ⟨fun t => ?_, fun b => ?_, fun b b' hl hl' hne g hg => ?_, fun b hb => ?_, ?_, h.nod, h.bel, h.low, h.drw, h.gl⟩⟩
    · -- slots
      by_cases htl' : t < σ.tm.length
      · rw [head_tm A σ zs t htl']
        have hk := c1' t htl'
        have hr := h.tms t
        unfold LoopAnn.tm
        split
        · exact .any _
        · rename_i hnd
          split
          · rename_i k hk2
            obtain ⟨x, q1, q2⟩ := idx1 k t hk2
            rw [q1]
            exact .v _ _ (plainRV _ _ _ hr q2)
          · rename_i hk2
            have hnv : A.vs.contains t = false := by
              cases hq : A.vs.contains t with
              | false => rfl
              | true =>
                have := List.isSome_idxOf?.2 (by simpa using hq)
                rw [hk2] at this; cases this
            have hnd' : A.drop.contains t = false := by simpa using hnd
            unfold slotOk at hk
            rw [hnd', hnv, Bool.false_or, Bool.false_or] at hk
            split at hk
            · exact liftR _ _ _ hr hk
            · rename_i hw
              rw [Bool.or_eq_true] at hk
              rcases hk with hk | hk
              · cases hq : σ.tm.getD t .any <;> rw [hq] at hk <;> first | exact .any _ | cases hk
              · rw [Bool.and_eq_true] at hk
                rcases ht t (by simpa using hw) with q | q
                · rw [q] at hr
                  exact lift2 _ _ hr hk.2
                · rw [q] at hk; exact absurd hk.1 (by simp [isAny])
      · have : (A.head σ zs).tm.getD t .any = .any := by
          rw [List.getD_eq_getElem?_getD, List.getElem?_eq_none (by rw [(head_frB A σ zs).2.1]; omega)]; rfl
        rw [this]; exact .any _
    · -- blocks
      by_cases hdead : isDead (σ.blk b) = true
      · have hk : (A.head σ zs).blk b = .dead := by
          have := (hH b).1
          rw [hdead] at this
          cases hq : (A.head σ zs).blk b <;> rw [hq] at this <;> first | rfl | cases this
        rw [hk]
        show (if isDead (σ.blk b) then undef else ρ b) = undef
        rw [hdead]; rfl
      · have hdead' : isDead (σ.blk b) = false := by simpa using hdead
        have hk := c2' b (hdd _ hdead')
        have hρb := hρ' b hdead'
        have hB := h.blks b
        have hcellk : ∀ o, A.cells.contains (b, o) = true → ∃ k, A.cells.idxOf? (b, o) = some k := fun o ho => by
          have := List.isSome_idxOf?.2 (show (b, o) ∈ A.cells by simpa using ho)
          cases hq : A.cells.idxOf? (b, o) with
          | none => rw [hq] at this; cases this
          | some k => exact ⟨k, rfl⟩
        rw [head_blk]
        unfold blkOk at hk
        split at hk
        · -- a row that is written
          rename_i hrow
          have hmem : b ∈ A.rows := by simpa using hrow
          have hti : b ∈ A.touched := List.mem_append_left _ hmem
          rw [if_pos hti]
          obtain ⟨k, hk2⟩ : ∃ k, A.rows.idxOf? b = some k := by
            have := List.isSome_idxOf?.2 hmem
            cases hq : A.rows.idxOf? b with
            | none => rw [hq] at this; cases this
            | some k => exact ⟨k, rfl⟩
          obtain ⟨e', s', n', x', q1, q2⟩ := idx2 k b hk2
          split at hk
          · rename_i e s n x e2 s2 n2 x2 hb1 hb2
            simp only [Bool.and_eq_true, beq_iff_eq, decide_eq_true_eq] at hk
            obtain ⟨⟨rfl, rfl⟩, hn⟩ := hk
            rw [hb1]
            simp only [LoopAnn.blkOf, hk2]
            rw [hb2] at q2 hB
            injection q2 with _ _ _ q3
            subst q3
            refine ⟨hn, ?_⟩
            rw [hρb, q1]
            exact hB.2.keep (fun _ _ => rfl) okm
          · cases hk
        · rename_i hnrow
          have hnr : A.rows.idxOf? b = none := by
            cases hq : A.rows.idxOf? b with
            | none => rfl
            | some k => exact absurd (by simpa using List.isSome_idxOf?.1 (by rw [hq]; rfl)) hnrow
          have hsame : (if b ∈ A.touched then A.blkOf zs b (σ.blk b) else σ.blk b) = A.blkOf zs b (σ.blk b) := by
            split
            · rfl
            · rename_i hnt
              cases hq : σ.blk b with
              | cells t cs =>
                simp only [LoopAnn.blkOf]
                congr 1
                apply List.ext_getElem?
                intro o
                rw [List.getElem?_map, List.getElem?_zipIdx]
                cases hcs : cs[o]? with
                | none => rfl
                | some d =>
                  simp only [Option.map_some]
                  unfold LoopAnn.cell
                  have : A.cells.idxOf? (b, 0 + o) = none := by
                    cases hq2 : A.cells.idxOf? (b, 0 + o) with
                    | none => rfl
                    | some k =>
                      have hm := List.isSome_idxOf?.1 (show (A.cells.idxOf? (b, 0 + o)).isSome = true by rw [hq2]; rfl)
                      exact absurd (List.mem_append_right _ (List.mem_map.2 ⟨_, hm, rfl⟩)) hnt
                  rw [this]
              | row e s n x => simp only [LoopAnn.blkOf, hnr]
              | dead => rfl
              | fz n x => rfl
              | sv ds vs => rfl
          rw [hsame]
          have cellGet : ∀ (cs : List DE) o, o < cs.length → (cs.zipIdx.map fun (p : DE × Nat) => A.cell zs b p.2 p.1).getD o .any = A.cell zs b o (cs.getD o .any) := fun cs o ho => by
            rw [List.getD_eq_getElem?_getD, List.getElem?_map, List.getElem?_zipIdx, List.getElem?_eq_getElem ho, List.getD_eq_getElem?_getD, List.getElem?_eq_getElem ho]
            simp
          split at hk
          · -- cells that are written
            split at hk
            · rename_i t cs t' cs' hb1 hb2
              simp only [Bool.and_eq_true, beq_iff_eq] at hk
              obtain ⟨⟨rfl, hlen⟩, hcl⟩ := hk
              rw [hb1]
              rw [hb2] at hB
              obtain ⟨g, vs, e1, e2, e3, e4, e5, e6⟩ := hB
              refine ⟨g, vs, hρb.trans e1, e2, e3, by simp [e4, hlen], fun i hi => e5 i (by simpa [hlen] using hi), fun i hi => ?_⟩
              have hi' : i < cs.length := by simpa using hi
              rw [cellGet cs i hi']
              have h6 := e6 i (hlen ▸ hi')
              unfold LoopAnn.cell
              split
              · rename_i k hk2
                obtain ⟨x, t2, cs2, d, q1, q2, q3, q4⟩ := idx3 k b i hk2
                rw [hb2] at q2
                injection q2 with _ q2
                subst q2
                rw [q1]
                rw [List.getD_eq_getElem?_getD, q3] at h6
                exact .v _ _ (plainRV _ _ _ h6 q4)
              · rename_i hk2
                have hcc := List.all_eq_true.1 hcl i (by simpa using hi')
                rw [Bool.or_eq_true] at hcc
                rcases hcc with hcc | hcc
                · obtain ⟨k, hk3⟩ := hcellk i hcc
                  rw [hk2] at hk3; cases hk3
                · exact liftR _ _ _ h6 hcc
            · exfalso; simp_all [isDead]
            · cases hk
          · -- untouched
            rename_i hnp
            rw [hblk' b (by simpa using hnp)] at hB
            cases hq : σ.blk b with
            | cells t cs =>
              rw [hq] at hB hk
              obtain ⟨g, vs, e1, e2, e3, e4, e5, e6⟩ := hB
              refine ⟨g, vs, hρb.trans e1, e2, e3, by simp [e4], fun i hi => e5 i (by simpa using hi), fun i hi => ?_⟩
              have hi' : i < cs.length := by simpa using hi
              rw [cellGet cs i hi']
              have h6 := e6 i hi'
              unfold LoopAnn.cell
              split
              · rename_i k hk2
                obtain ⟨x, t2, cs2, d, q1, q2, q3, q4⟩ := idx3 k b i hk2
                rw [hblk' b (by simpa using hnp), hq] at q2
                injection q2 with _ q2
                subst q2
                rw [q1]
                rw [List.getD_eq_getElem?_getD, q3] at h6
                exact .v _ _ (plainRV _ _ _ h6 q4)
              · rename_i hk2
                have hcc := List.all_eq_true.1 hk i (by simpa using hi')
                rw [Bool.or_eq_true] at hcc
                rcases hcc with hcc | hcc
                · obtain ⟨k, hk3⟩ := hcellk i hcc
                  rw [hk2] at hk3; cases hk3
                · exact lift2 _ _ h6 hcc
            | row e s n x =>
              rw [hq] at hB hk
              simp only [LoopAnn.blkOf, hnr]
              refine ⟨of_decide_eq_true hk, ?_⟩
              rw [hρb]
              exact hB.2.keep (fun _ _ => rfl) okm
            | fz n x =>
              rw [hq] at hB hk
              refine ⟨of_decide_eq_true hk, ?_, ?_⟩
              · rw [hρb]; exact hB.2.1.mono okm
              · rw [hρb]; exact hB.2.2
            | sv ds vs =>
              rw [hq] at hB hk
              refine ⟨hρb.trans hB.1, hB.2.1, fun t => ?_⟩
              by_cases ht' : t < ds.length
              · refine lift2 _ _ (hB.2.2 t) ?_
                rw [List.getD_eq_getElem?_getD, List.getElem?_eq_getElem ht']
                exact List.all_eq_true.1 hk _ (List.getElem_mem ht')
              · rw [List.getD_eq_getElem?_getD, List.getElem?_eq_none (by omega)]; exact .any _
            | dead => rw [hq] at hdead'; cases hdead'
    · rw [(hH b).2.1] at hl
      rw [(hH b').2.1] at hl'
      rw [hρ' b (live_notDead hl)] at hg
      rw [hρ' b' (live_notDead hl')]
      exact h.inj b b' (hlive b hl) (hlive b' hl') hne g hg
    · have hd : σ.blk b = .dead := Classical.byContradiction fun hn => hb (c3' b hn)
      have := (hH b).1
      rw [hd] at this
      cases hq : (A.head σ zs).blk b <;> rw [hq] at this <;> first | rfl | cases this
    · rw [(head_frB A σ zs).2.1, ← htl]; exact h.size
  · cases hz
end
end Go.Proofs.Ytfdpbfdhcngfgaa
