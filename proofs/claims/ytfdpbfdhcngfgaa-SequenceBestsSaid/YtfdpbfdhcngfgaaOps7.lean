/- Each operation does what the run says: parts; addresses of elements; structs that are built. -/
import Derived.Test.YtfdpbfdhcngfgaaOps6
namespace Go.Proofs.Ytfdpbfdhcngfgaa
open Go.RowKit
set_option linter.unusedVariables false
set_option linter.unusedSimpArgs false
section
variable {P : Program} {base : Nat} {w0 : World} {ok0 isd : Nat → Prop} {tm : List DE} {blk : Nat → DB} {ρ : Nat → Value} {a : Act} {w : World} {V : View} {st : Nat} {o : Oper} {Γ : FuncId → Option Ca}
theorem op_index {t : TypeId} {x i : Operand} (ho : o.op = .index t x i) (hV : VOk V tm blk) (h : HR base w0 ok0 isd tm blk ρ a w) {δ : Delta} (hv : Valid P Γ o st V δ) : Goes P base w0 ok0 isd tm blk st a w o δ := by
  have hx := ev_ok hV h x
  have hi := ev_ok hV h i
  simp only [Valid, opD, ho] at hv
  split at hv
  · rename_i ht
    split at hv
    · rename_i b k hb hk
      obtain ⟨h1, ⟨h2, h3, h4⟩, rfl⟩ := hv.det2
      have r1 := rv_str (pc_ok' hV h hx hb) h1
      have r2 := rv_int (pc_ok' hV h hi hk) h2
      have hlt : k.num.toNat < b.str.size := by omega
      refine goes_val h (v := .int .u8 (b.str[k.num.toNat]).toNat) ?_ (.v _ _ ?_)
      · simp [execOp, ho, Instr.index, r1, r2, asIntOf, run_underlying ht, h3, hlt]
      · unfold AV.sat
        rw [getElem?_pos b.str k.num.toNat hlt]
        exact .lit _
    · exact hv.elim
  · rename_i n e ht
    split at hv
    · rename_i cs obs k hs hk
      split at hv
      · rename_i xs hp
        split at hv
        · exact hv.elim
        · rename_i hcond
          have hz : P.cellsOf e ≠ 0 := fun q => hcond (.inl q)
          have hu : ¬ (P.underlying e).isNone = true := fun q => hcond (.inr (.inl q))
          have hxl : xs.length = n * P.cellsOf e := Classical.byContradiction fun q => hcond (.inr (.inr q))
          split at hv
          · rename_i d hw
            obtain ⟨hobs, rfl⟩ := hv
            obtain ⟨hc, hlen⟩ := split_ok hs (fun p hp => hobs p (List.mem_append_left _ hp)) hx
            obtain ⟨k1, k2, k3⟩ : AV.inl n k := hobs _ (List.mem_append_right _ (by simp))
            have r2 := rv_int (pc_ok' hV h hi hk) k1
            have hagg : isAggT P t = true := by unfold isAggT; rw [ht]
            have hagv : a.eval x = .agg (a.eval x).cells := by
              unfold split at hs
              rw [hagg] at hs
              simp only at hs
              split at hs
              · rename_i cs' he
                rw [he] at hx
                generalize a.eval x = u at hx
                cases hx; rfl
              · rename_i y he
                rw [he] at hx
                simp only [Option.some.injEq, Prod.mk.injEq] at hs
                obtain ⟨ys, rfl, _⟩ := hobs (y.isAgg (P.cellsOf t)) (List.mem_append_left _ (by rw [← hs.2]; simp))
                generalize a.eval x = u at hx
                cases hx with | v _ _ hr => cases hr; rfl
              · cases hs
            obtain ⟨vs, hvs⟩ : ∃ vs, a.eval x = .agg vs := ⟨_, hagv⟩
            clear hagv
            rw [hvs] at hc
            have hc : RCells w (okF base ok0 blk ρ) ρ blk isd cs vs := hc
            obtain ⟨p1, p2⟩ := pcs_get hp
            have hc2 : RCells w (okF base ok0 blk ρ) ρ blk isd (xs.map .v) vs := by
              refine ⟨by rw [List.length_map, p1]; exact hc.1, fun j hj => hc.2.1 j (by rw [List.length_map, p1] at hj; exact hj), fun j hj => ?_⟩
              have hj' : j < cs.length := by rw [List.length_map, p1] at hj; exact hj
              obtain ⟨r', z1, z2⟩ := p2 j hj'
              obtain rfl : r' = [] := by
                cases r' with
                | nil => rfl
                | cons q _ => exact absurd (z2 q (by simp)) (by simp)
              have hjx : j < xs.length := by rw [p1]; exact hj'
              have e1 : (xs.map DE.v).getD j .any = .v (xs.getD j default) := by
                rw [List.getD_eq_getElem?_getD, List.getElem?_map, List.getElem?_eq_getElem hjx, List.getD_eq_getElem?_getD, List.getElem?_eq_getElem hjx]; rfl
              rw [e1]
              exact .v _ _ (pc_ok' hV h (hc.2.2 j hj') z1)
            have hoff : k.num.toNat * P.cellsOf e + P.cellsOf e ≤ xs.length := by
              rw [hxl, ← Nat.succ_mul]
              exact Nat.mul_le_mul_right _ (by omega)
            have hseg := hc2.seg (k.num.toNat * P.cellsOf e) (P.cellsOf e)
            have hl : ((xs.map DE.v).drop (k.num.toNat * P.cellsOf e)).take (P.cellsOf e) = (List.range (P.cellsOf e)).map fun j => DE.v (AV.nth xs j [(k, P.cellsOf e)]) := by
              apply List.ext_getElem?
              intro j
              rw [List.getElem?_take, List.getElem?_map]
              by_cases hj : j < P.cellsOf e
              · rw [if_pos hj, List.getElem?_drop, List.getElem?_map, List.getElem?_eq_getElem (show k.num.toNat * P.cellsOf e + j < xs.length by omega), List.getElem?_range hj]
                simp only [Option.map_some, AV.nth, AV.off]
                rw [List.getD_eq_getElem?_getD, List.getElem?_eq_getElem (show k.num.toNat * P.cellsOf e + j < xs.length by omega)]
                rfl
              · rw [if_neg hj, List.getElem?_eq_none (by simp; omega)]; rfl
            rw [hl] at hseg
            obtain ⟨r1, r2', r3⟩ := whole_ok hw hseg
            refine goes_val h ?_ r1
            simp only [execOp, ho, Instr.index, r2, asIntOf, Sem.run_bind, Sem.run_pure, run_underlying ht, Result.andThen_ok, hvs, part, isAgg_run (w := w) hu, sizeOf_run (w := w) hz]
            have hin : (0 ≤ k.num ∧ k.num < (n : Int)) := ⟨k2, k3⟩
            rw [if_pos hin]
            cases hA : isAggT P e with
            | true => simp [sizeOf_run (w := w) hz, isAgg_run (w := w) hu, part, hA]
            | false =>
              have hs1 := r3 hA
              have hlt : k.num.toNat * P.cellsOf e < vs.size := by rw [Array.size_extract] at hs1; omega
              have e1 : (vs.extract (k.num.toNat * P.cellsOf e) (k.num.toNat * P.cellsOf e + P.cellsOf e)).getD 0 undef = vs[k.num.toNat * P.cellsOf e] := by
                rw [Array.getD_eq_getD_getElem?, Array.getElem?_extract, if_pos (by rw [Array.size_extract] at hs1; omega)]
                simp [hlt]
              simp only [Bool.false_eq_true, if_false, e1]
              simp [sizeOf_run (w := w) hz, isAgg_run (w := w) hu, part, hA, Array.getElem?_eq_getElem hlt]
          · exact hv.elim
      · exact hv.elim
    · exact hv.elim
  · exact hv.elim
theorem op_field {t : TypeId} {x : Operand} {f : Nat} (ho : o.op = .field t x f) (hV : VOk V tm blk) (h : HR base w0 ok0 isd tm blk ρ a w) {δ : Delta} (hv : Valid P Γ o st V δ) : Goes P base w0 ok0 isd tm blk st a w o δ := by
  have hx := ev_ok hV h x
  simp only [Valid, opD, ho] at hv
  split at hv
  · rename_i fl cs obs hf hs
    obtain ⟨fs, ht, hfl⟩ := fieldOf_spec hf
    split at hv
    · exact hv.elim
    · rename_i hu'
      have hu : ¬ (P.underlying fl.type).isNone = true := fun e => hu' (.inl e)
      have hz : P.cellsOf fl.type ≠ 0 := fun e => hu' (.inr e)
      split at hv
      · rename_i d hw
        obtain ⟨hobs, rfl⟩ := hv
        obtain ⟨hc, hlen⟩ := split_ok hs hobs hx
        have hagg : isAggT P t = true := by unfold isAggT; rw [ht]
        have hagv : a.eval x = .agg (a.eval x).cells := by
          unfold split at hs
          rw [hagg] at hs
          simp only at hs
          split at hs
          · rename_i cs' he
            rw [he] at hx
            generalize a.eval x = u at hx
            cases hx; rfl
          · rename_i y he
            rw [he] at hx
            simp only [Option.some.injEq, Prod.mk.injEq] at hs
            obtain ⟨ys, rfl, _⟩ := hobs (y.isAgg (P.cellsOf t)) (by rw [← hs.2]; simp)
            generalize a.eval x = u at hx
            cases hx with | v _ _ hr => cases hr; rfl
          · cases hs
        obtain ⟨vs, hvs⟩ : ∃ vs, a.eval x = .agg vs := ⟨_, hagv⟩
        clear hagv
        rw [hvs] at hc
        have hc : RCells w (okF base ok0 blk ρ) ρ blk isd cs vs := hc
        obtain ⟨r1, r2, r3⟩ := whole_ok hw (hc.seg fl.offset (P.cellsOf fl.type))
        refine goes_val h ?_ r1
        simp only [execOp, ho, Instr.field, Sem.run_bind, run_underlying ht, Result.andThen_ok, hfl, hvs, asAgg, Sem.run_pure, part, isAgg_run (w := w) hu]
        cases hA : isAggT P fl.type with
        | true => simp [sizeOf_run (w := w) hz]
        | false =>
          have hs1 := r3 hA
          have hlt : fl.offset < vs.size := by
            rw [Array.size_extract] at hs1; omega
          have e : (vs.extract fl.offset (fl.offset + P.cellsOf fl.type)).getD 0 undef = vs[fl.offset] := by
            rw [Array.getD_eq_getD_getElem?, Array.getElem?_extract, if_pos (by rw [Array.size_extract] at hs1; omega)]
            simp [hlt]
          simp only [Bool.false_eq_true, if_false, e]
          simp [Array.getElem?_eq_getElem hlt]
      · exact hv.elim
  · exact hv.elim
theorem op_indexAddr {t : TypeId} {x i : Operand} (ho : o.op = .indexAddr t x i) (hV : VOk V tm blk) (h : HR base w0 ok0 isd tm blk ρ a w) {δ : Delta} (hv : Valid P Γ o st V δ) : Goes P base w0 ok0 isd tm blk st a w o δ := by
  have hx := ev_ok hV h x
  have hi := ev_ok hV h i
  simp only [Valid, opD, ho] at hv
  split at hv
  · rename_i e k ht hk
    split at hv
    · exact hv.elim
    · rename_i hz
      have hkv := pc_ok' hV h hi hk
      have hrun : ∀ g off n c, a.eval x = .slice (some ⟨g, off, none⟩) n c → k.isInt → 0 ≤ k.num → k.num < n → (execOp a.eval o).run P w = .ok (.value (.pointer (some ⟨g, off + k.num.toNat * P.cellsOf e + 0, none⟩))) w := fun g off n c e1 e2 e3 e4 => by
        have e5 := rv_int hkv e2
        simp [execOp, ho, Instr.indexAt, e5, asIntOf, run_underlying ht, e1, e3, e4, sizeOf_run (w := w) hz, Addr.add]
        try (split <;> simp_all)
      split at hv
      · rename_i X he
        rw [he] at hx
        obtain ⟨h1, ⟨h2, h3, h4⟩, rfl⟩ := hv.det2
        generalize hu2 : a.eval x = u at hx hrun
        cases hx with
        | v _ _ hr =>
          have hr' := hr
          obtain ⟨A, c, rfl, _⟩ := rv_sl hr h1
          obtain ⟨g, off, us, rfl, _⟩ := rv_el hr h1 k.num.toNat (by omega)
          exact goes_val h (hrun g off _ c rfl h2 h3 h4) (.ip X k _ 0 g off _ c h1 hr' ⟨h3, h4⟩)
      · rename_i b n he
        rw [he] at hx
        split at hv
        · rename_i e' s m X hb
          split at hv
          · rename_i hc
            obtain ⟨rfl, rfl⟩ := hc
            obtain ⟨⟨h2, h3, h4⟩, rfl⟩ := hv.det1
            have hbk := hV.row hb
            have hrow := h.row hbk
            generalize hu2 : a.eval x = u at hx hrun
            cases hx with
            | row _ _ _ hn h1' hs =>
              have hv := hs (by rw [hbk]; rfl)
              obtain ⟨A, n', c, e1, e2, _⟩ := hrow.form
              have hr := hrow.rv (ok' := fun _ => True) (fun _ _ _ => trivial) (fun _ _ => trivial)
              rw [e1] at hr hv
              obtain ⟨L, xs, eX, _, _, ho2, _⟩ := hrow
              rcases ho2.2 with ⟨e3, e4⟩ | ⟨g, cap, cur, e3, _⟩
              · subst eX; simp only [AV.els] at h4; omega
              · rw [e1] at e3
                injection e3 with e3 e4 e5
                subst e3
                rw [hv] at hrun
                refine goes_val h (hrun g 0 n' c rfl h2 h3 (by rw [e2]; exact h4)) (.rp b m (P.cellsOf e) k 0 _ hn rfl fun _ => ⟨g, n', c, e1, by simp⟩)
          · exact hv.elim
        · rename_i m X hb
          split at hv
          · rename_i hc
            subst hc
            obtain ⟨h1, ⟨h2, h3, h4⟩, rfl⟩ := hv.det2
            have hbk := hV.fz hb
            have hfz := h.blks b
            rw [hbk] at hfz
            generalize hu2 : a.eval x = u at hx hrun
            cases hx with
            | row _ _ _ hn h1' hs =>
              have hv := hs (by rw [hbk]; rfl)
              subst hv
              have hr := hfz.2.1
              obtain ⟨A, c, e1, _⟩ := rv_sl hr h1
              rw [e1] at hr hrun
              obtain ⟨g, off, us, rfl, _⟩ := rv_el hr h1 k.num.toNat (by omega)
              exact goes_val h (hrun g off _ c rfl h2 h3 h4) (.ip X k _ 0 g off _ c h1 hr ⟨h3, h4⟩)
          · exact hv.elim
        · exact hv.elim
      · exact hv.elim
  · rename_i n e k ht hk
    split at hv
    · exact hv.elim
    · rename_i hz
      have hkv := pc_ok' hV h hi hk
      have hrun : ∀ g off, a.eval x = .pointer (some ⟨g, off, none⟩) → k.isInt → 0 ≤ k.num → k.num < n → (execOp a.eval o).run P w = .ok (.value (.pointer (some ⟨g, off + k.num.toNat * P.cellsOf e, none⟩))) w := fun g off e1 e2 e3 e4 => by
        have e5 := rv_int hkv e2
        simp [execOp, ho, Instr.indexAt, e5, asIntOf, run_underlying ht, e1, e3, e4, sizeOf_run (w := w) hz, Instr.sureAddr, Addr.add]
        try (split <;> simp_all)
      split at hv
      · rename_i b o' kk j he hc
        rw [he] at hx
        split at hv
        · rename_i hj
          obtain rfl := hv.pure1
          have hk2 : k = .lit (.int kk j) := by
            rw [constInt_spec hc] at hk
            simp only [View.pc, Option.some.injEq, Prod.mk.injEq, and_true] at hk
            exact hk.symm
          subst hk2
          generalize hu2 : a.eval x = u at hx hrun
          cases hx with
          | ptr _ _ g hg => exact goes_val h (hrun g o' rfl ⟨kk, j, rfl⟩ hj.1 hj.2) (.ptr b _ g hg)
        · exact hv.elim
      · rename_i b o' he hc
        rw [he] at hx
        obtain ⟨⟨h2, h3, h4⟩, rfl⟩ := hv.det1
        generalize hu2 : a.eval x = u at hx hrun
        cases hx with
        | ptr _ _ g hg =>
          have := hrun g o' rfl h2 h3 h4
          rw [Nat.add_comm] at this
          exact goes_val h this (.sp b o' [(k, P.cellsOf e)] g hg)
      · rename_i b o' ix he
        rw [he] at hx
        obtain ⟨⟨h2, h3, h4⟩, rfl⟩ := hv.det1
        generalize hu2 : a.eval x = u at hx hrun
        cases hx with
        | sp _ _ _ g hg =>
          have := hrun g _ rfl h2 h3 h4
          rw [Nat.add_comm] at this
          exact goes_val h this (.sp b o' ((k, P.cellsOf e) :: ix) g hg)
      · rename_i X he
        rw [he] at hx
        obtain ⟨⟨h2, h3, h4⟩, h5, rfl⟩ := hv.det2
        generalize hu2 : a.eval x = u at hx hrun
        cases hx with
        | v _ _ hh =>
          have hh' := hh
          obtain ⟨cs, rfl, hm⟩ := h5
          cases hh with
          | ref _ g us hok hg hc h1 h2' =>
            have := hrun g 0 rfl h2 h3 h4
            rw [Nat.add_comm] at this
            exact goes_val h this (.gp _ _ 0 [(k, P.cellsOf e)] g ⟨cs, rfl, hm⟩ hh')
      · exact hv.elim
  · exact hv.elim
end
end Go.Proofs.Ytfdpbfdhcngfgaa
